/-
  A script of calls, as the laws of modes take it; and how a step turns the mode. Conditions: none.
-/
import Derived.Test.YtfjhlgmdkkdooaaKite
import Derived.Test.YtfjhlgmdkkdooaaLawLoads
namespace Go.Proofs.Ytfjhlgmdkkdooaa
open Go.RowKit Kit
set_option linter.unusedVariables false
abbrev ks9 : List Sc := [.inr false, .inl .i64, .inl .i64, .inl .i64, .inl .i64, .inl .i64, .inl .i64, .inl .i64, .inr false]
theorem act_open {x : List Value} (h : scAll ks9 x) : ∃ (s : Bool) (m a b c d ch le : Int) (tr : Bool), x = [.bool s, .int .i64 m, .int .i64 a, .int .i64 b, .int .i64 c, .int .i64 d, .int .i64 ch, .int .i64 le, .bool tr] ∧
    (∀ y ∈ [a, b, c, d], -9223372036854775808 ≤ y ∧ y ≤ 9223372036854775807) := by
  obtain ⟨s, c0, e0, t0⟩ := scAll_bool h
  obtain ⟨m, c1, e1, _, t1⟩ := scAll_int t0
  obtain ⟨a, c2, e2, wa, t2⟩ := scAll_int t1
  obtain ⟨b, c3, e3, wb, t3⟩ := scAll_int t2
  obtain ⟨c, c4, e4, wc, t4⟩ := scAll_int t3
  obtain ⟨d, c5, e5, wd, t5⟩ := scAll_int t4
  obtain ⟨ch, c6, e6, _, t6⟩ := scAll_int t5
  obtain ⟨le, c7, e7, _, t7⟩ := scAll_int t6
  obtain ⟨tr, c8, e8, t8⟩ := scAll_bool t7
  have t9 := scAll_nil t8
  subst t9 e8 e7 e6 e5 e4 e3 e2 e1 e0
  refine ⟨s, m, a, b, c, d, ch, le, tr, rfl, fun y hy => ?_⟩
  simp only [List.mem_cons, List.not_mem_nil, or_false] at hy
  rcases hy with rfl | rfl | rfl | rfl
  · exact wf64 wa
  · exact wf64 wb
  · exact wf64 wc
  · exact wf64 wd
/-- The object lies in a block of its own. -/
structure MO (w : World) (f : Nat) (m A B C D : Int) (W : World) : Prop where
  obj : W.heap[f]? = some (MC m A B C D)
  mode : m = 0 ∨ m = 1 ∨ m = 2
  below : Below w.heap.size w W
  base : w.heap.size ≤ f
theorem ask_obj (m A B C D mode a b c d ch le : Int) (tr : Bool) (hm : m = 0 ∨ m = 1 ∨ m = 2) : ∃ m' A' B' C' D', askObj m A B C D mode a b c d ch le tr = MC m' A' B' C' D' ∧ (m' = 0 ∨ m' = 1 ∨ m' = 2) ∧ (askErr m mode a b c d ch le tr = 0 → m' = mode) ∧ (askErr m mode a b c d ch le tr ≠ 0 → m' = m) := by
  unfold askObj
  by_cases h : askErr m mode a b c d ch le tr = 0
  · have hr : mode = 0 ∨ mode = 1 ∨ mode = 2 := by
      unfold askErr at h
      split at h
      · omega
      · rename_i h'; omega
    rw [if_pos h]
    by_cases h2 : mode = 2
    · rw [if_pos h2]; exact ⟨_, _, _, _, _, rfl, hr, fun _ => rfl, fun h' => (h' h).elim⟩
    · rw [if_neg h2]; exact ⟨_, _, _, _, _, rfl, hr, fun _ => rfl, fun h' => (h' h).elim⟩
  · rw [if_neg h]; exact ⟨_, _, _, _, _, rfl, hm, fun h' => (h h').elim, fun _ => rfl⟩
theorem ask_mo {w W : World} {f : Nat} {m A B C D mode a b c d ch le : Int} {tr : Bool} (h : MO w f m A B C D W) (hq : ∀ x ∈ [a, b, c, d], -9223372036854775808 ≤ x ∧ x ≤ 9223372036854775807) :
    Calls Try.prog 10 #[.pointer (some ⟨f, 0, none⟩), .int .i64 mode, .agg #[.int .i64 a, .int .i64 b, .int .i64 c, .int .i64 d], .agg #[.int .i64 ch, .int .i64 le, .bool tr]] W fun e W' => e = .returned (.int .i64 (askErr m mode a b c d ch le tr)) ∧ ∃ m' A' B' C' D', MO w f m' A' B' C' D' W' ∧ Mod (fun k => k = f) W W' ∧ (askErr m mode a b c d ch le tr = 0 → m' = mode) ∧ (askErr m mode a b c d ch le tr ≠ 0 → m' = m) := by
  obtain ⟨m', A', B', C', D', ho, hr, h1, h2⟩ := ask_obj m A B C D mode a b c d ch le tr h.mode
  refine (ask_any f m A B C D mode a b c d ch le tr W h.obj hq).mono fun e W' ⟨he, hob, hm⟩ => ⟨he, m', A', B', C', D', ⟨by rw [hob, ho], hr, bl_mod h.below hm h.base, h.base⟩, hm, h1, h2⟩
theorem tick_mo {w W : World} {f : Nat} {m A B C D ch le : Int} {tr : Bool} (h : MO w f m A B C D W) :
    Calls Try.prog 12 #[.pointer (some ⟨f, 0, none⟩), .agg #[.int .i64 ch, .int .i64 le, .bool tr]] W fun e W' => e = .returned (.tuple #[.int .i64 (tkm m ch le tr), aim (tkm m ch le tr) A B C D]) ∧ MO w f (tkm m ch le tr) A B C D W' ∧ Mod (fun k => k = f) W W' := by
  refine (tick_any f m A B C D ch le tr W h.mode h.obj).mono fun e W' ⟨he, hob, hm⟩ => ⟨he, ⟨hob, ?_, bl_mod h.below hm h.base, h.base⟩, hm⟩
  unfold tkm
  split
  · exact h.mode
  · omega
theorem MO.alloc {w W : World} {f : Nat} {m A B C D : Int} (h : MO w f m A B C D W) (o : Obj) : MO w f m A B C D (W.alloc o) := ⟨hp_old h.obj _, h.mode, bl_alloc h.below _, h.base⟩
theorem MO.drewN {w W : World} {f : Nat} {m A B C D : Int} (h : MO w f m A B C D W) (n : Nat) : MO w f m A B C D (W.drewN n) := ⟨h.obj, h.mode, below_drewN h.below n, h.base⟩
theorem MO.drew {w W : World} {f : Nat} {m A B C D : Int} (h : MO w f m A B C D W) : MO w f m A B C D W.drew := ⟨h.obj, h.mode, h.below.drew, h.base⟩
theorem MO.bl {w W W' : World} {f : Nat} {m A B C D : Int} (h : MO w f m A B C D W) (hb : Below W.heap.size W W') : MO w f m A B C D W' := ⟨below_keeps hb h.obj (lt_of_obj h.obj), h.mode, bl_step h.below hb, h.base⟩
/-- From safe mode only standby with a good pose leads out. -/
theorem ask_safe {mode a b c d ch le : Int} {tr : Bool} (h : askErr 0 mode a b c d ch le tr = 0) : mode = 0 ∨ (mode = 1 ∧ goodB ch le tr = true) := by
  unfold askErr at h
  split at h
  · omega
  · rename_i h1
    split at h
    · omega
    · rename_i h2
      split at h
      · omega
      · rename_i h3
        by_cases h0 : mode = 0
        · exact .inl h0
        · refine .inr ⟨by omega, ?_⟩
          cases hg : goodB ch le tr
          · exact absurd ⟨h0, hg⟩ h2
          · rfl
end Go.Proofs.Ytfjhlgmdkkdooaa
