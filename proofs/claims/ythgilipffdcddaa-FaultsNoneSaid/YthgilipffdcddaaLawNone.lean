/-
  The walk of the law FaultsNone. Conditions: none.
-/
import Derived.Test.YthgilipffdcddaaShown
namespace Go.Proofs.Ythgilipffdcddaa
open Go.RowKit Kit
set_option linter.unusedVariables false
/-- A pointer to an object that is none. -/
def NoneP (w : World) (p : Option Addr) : Prop := p = none ∨ ∃ f, p = some ⟨f, 0, none⟩ ∧ w.cell? ⟨f, 0, none⟩ = some (.bool false)
theorem NoneP.below {w w' : World} {p : Option Addr} (h : NoneP w p) (hb : Below w.heap.size w w') : NoneP w' p := by
  rcases h with h | ⟨f, rfl, h⟩
  · exact .inl h
  · have hlt := World.block_lt_of_cell? w _ h
    exact .inr ⟨f, rfl, by rw [hb.cell hlt]; exact h⟩
theorem none_all {w : World} {p : Option Addr} (h : NoneP w p) : Calls Try.prog 28 #[.pointer p] w fun e w' => e = .returned (.bool true) ∧ w = w' := by
  rcases h with rfl | ⟨f, rfl, h⟩
  · exact none_nil w
  · exact none_any f false w h
theorem tick_none {w : World} {p : Option Addr} (h : NoneP w p) (a : Option Addr) (n c : Nat) :
    Calls Try.prog 11 #[.pointer p, .slice a n c] w fun e w' => e = .returned (.tuple #[.slice none 0 0, .int .i64 1]) ∧ Below w.heap.size w w' := by
  have H := Lib.hid h; clear h
  go_enter Try.func11, Try.ntmps11
  go_wp2_with (fail)
  refine (none_all (H.out.below (bl_alloc (Below.refl _ _) _))).mono ?_
  rintro e _ ⟨rfl, rfl⟩
  go_wp2_with (fail)
  go_ret2
  exact ⟨rfl, bl_alloc (Below.refl _ _) _⟩
theorem tripped_none {w : World} {p : Option Addr} (h : NoneP w p) (t : Int) :
    Calls Try.prog 12 #[.pointer p, .int .i64 t] w fun e w' => e = .returned (.bool false) ∧ Below w.heap.size w w' := by
  have H := Lib.hid h; clear h
  go_enter Try.func12, Try.ntmps12
  go_wp2_with (fail)
  refine (none_all (H.out.below (bl_alloc (Below.refl _ _) _))).mono ?_
  rintro e _ ⟨rfl, rfl⟩
  go_wp2_with (fail)
  go_ret
  exact ⟨rfl, bl_alloc (Below.refl _ _) _⟩
theorem watches_none {w : World} {p : Option Addr} (h : NoneP w p) :
    Calls Try.prog 25 #[.pointer p] w fun e w' => e = .returned (.slice none 0 0) ∧ w = w' := by
  have H := Lib.hid h; clear h
  go_enter Try.func25, Try.ntmps25
  go_wp2_with (fail)
  refine (none_all H.out).mono ?_
  rintro e _ ⟨rfl, rfl⟩
  go_wp2_with (fail)
  go_ret
  exact ⟨rfl, rfl⟩
theorem at_none {w : World} {p : Option Addr} (h : NoneP w p) (n : Int) :
    Calls Try.prog 34 #[.pointer p, .int .i64 n] w fun e w' => e = .returned (.tuple #[.pointer none, .int .i64 1]) ∧ w = w' := by
  have H := Lib.hid h; clear h
  go_enter Try.func34, Try.ntmps34
  go_wp2_with (fail)
  refine (none_all H.out).mono ?_
  rintro e _ ⟨rfl, rfl⟩
  go_wp2_with (fail)
  go_ret2
  exact ⟨rfl, rfl⟩
theorem clear_none {w : World} {p : Option Addr} (h : NoneP w p) (n : Int) :
    Calls Try.prog 16 #[.pointer p, .int .i64 n] w fun e w' => e = .returned (.int .i64 1) ∧ w = w' := by
  have H := Lib.hid h; clear h
  go_enter Try.func16, Try.ntmps16
  go_wp2_with (fail)
  refine (at_none H.out _).mono ?_
  rintro e _ ⟨rfl, rfl⟩
  go_wp2_with (fail)
  go_ret
  exact ⟨rfl, rfl⟩
theorem enable_none {w : World} {p : Option Addr} (h : NoneP w p) (n : Int) (b : Bool) :
    Calls Try.prog 18 #[.pointer p, .int .i64 n, .bool b] w fun e w' => e = .returned (.int .i64 1) ∧ w = w' := by
  have H := Lib.hid h; clear h
  go_enter Try.func18, Try.ntmps18
  go_wp2_with (fail)
  refine (at_none H.out _).mono ?_
  rintro e _ ⟨rfl, rfl⟩
  go_wp2_with (fail)
  go_ret
  exact ⟨rfl, rfl⟩
set_option maxRecDepth 100000 in
set_option maxHeartbeats 3200000 in
theorem none_walk (n : Int) (a : Option Addr) (pn pc : Nat) (w : World) : Calls Try.prog 6 #[.int .i64 n, .slice a pn pc] w fun e w' => e = .returned (.bool true) ∧ Below w.heap.size w w' := by
  go_enter Try.func6, Try.ntmps6
  go_wp2_with (fail)
  refine (shown_any _).mono ?_
  rintro e w1 ⟨rfl, hb1⟩
  have B1 := Lib.hid hb1; clear hb1
  have hs1 := B1.out.size
  go_wp2_with (fail)
  have i0 : ∀ w, (Instr.index 65 (.agg #[.pointer none, .pointer (some ⟨w1.heap.size, 0, none⟩)]) (.int .i64 0)).run Try.prog w = .ok (.pointer none) w := fun _ => by kernel_rfl
  have i1 : ∀ w, (Instr.index 65 (.agg #[.pointer none, .pointer (some ⟨w1.heap.size, 0, none⟩)]) (.int .i64 1)).run Try.prog w = .ok (.pointer (some ⟨w1.heap.size, 0, none⟩)) w := fun _ => by kernel_rfl
  have N2 : Hid (∀ w', Below (w1.heap.size + 1) (w1.alloc (.cells #[.bool false, .slice none 0 0] 64)) w' → NoneP w' (some ⟨w1.heap.size, 0, none⟩)) := Lib.hid (fun w' hb =>
    (show NoneP (w1.alloc (.cells #[.bool false, .slice none 0 0] 64)) _ from .inr ⟨_, rfl, cell_of (i := 0) (hp_new w1 _) rfl⟩).below (by rw [World.size_alloc]; exact hb))
  obtain ⟨w2, hw2⟩ : ∃ w2, w1.alloc (.cells #[.bool false, .slice none 0 0] 64) = w2 := ⟨_, rfl⟩
  have B2 : Hid (Below w.heap.size w w2) := Lib.hid (by rw [← hw2]; exact bl_alloc B1.out _)
  have hz2 : w2.heap.size = w1.heap.size + 1 := by rw [← hw2]; simp
  rw [hw2] at N2 ⊢
  have Z2 := Lib.hid hz2
  have hs2 : w.heap.size ≤ w2.heap.size := by omega
  clear hw2 hz2 B1
  refine wp_loop_rounds 3 ?_
  rw [rounds_succ]
  go_wp2_with (fail)
  refine (tick_none (.inl rfl) _ _ _).mono ?_
  rintro e w3 ⟨rfl, hb3⟩
  have B3 := Lib.hid hb3; clear hb3
  go_wp2_with (fail)
  refine (clear_none (.inl rfl) _).mono ?_
  rintro e _ ⟨rfl, rfl⟩
  go_wp2_with (fail)
  refine (enable_none (.inl rfl) _ _).mono ?_
  rintro e _ ⟨rfl, rfl⟩
  go_wp2_with (fail)
  refine (tripped_none (.inl rfl) _).mono ?_
  rintro e w4 ⟨rfl, hb4⟩
  have B4 := Lib.hid (bl_step B3.out hb4); clear hb4 B3
  go_wp2_with (fail)
  refine (watches_none (.inl rfl)).mono ?_
  rintro e _ ⟨rfl, rfl⟩
  go_wp2_with (fail)
  rw [rounds_succ]
  go_wp2_with (fail)
  refine (tick_none (N2.out w4 (by rw [← Z2.out]; exact B4.out)) _ _ _).mono ?_
  rintro e w5 ⟨rfl, hb5⟩
  have B5 := Lib.hid (bl_step B4.out hb5); clear hb5 B4
  have M5 := Lib.hid (N2.out w5 (by rw [← Z2.out]; exact B5.out))
  go_wp2_with (fail)
  refine (clear_none M5.out _).mono ?_
  rintro e _ ⟨rfl, rfl⟩
  go_wp2_with (fail)
  refine (enable_none M5.out _ _).mono ?_
  rintro e _ ⟨rfl, rfl⟩
  go_wp2_with (fail)
  refine (tripped_none M5.out _).mono ?_
  rintro e w6 ⟨rfl, hb6⟩
  have B6 := Lib.hid (bl_step B5.out hb6); clear hb6 B5
  go_wp2_with (fail)
  refine (watches_none (N2.out w6 (by rw [← Z2.out]; exact B6.out))).mono ?_
  rintro e _ ⟨rfl, rfl⟩
  go_wp2_with (fail)
  rw [rounds_succ]
  go_wp2_with (fail)
  go_ret
  exact ⟨rfl, bl_step B2.out B6.out⟩
theorem FaultsNone_walk (a0 : Int) (a1 : Value) (w : World) (w0 : (Lit.int .i64 a0).wf = true) (w1 : Kit.SlIn [.inl .i64] w a1) :
    Calls Try.prog 6 #[.int .i64 a0, a1] w fun e w' => e = .returned (.bool true) ∧ Below w.heap.size w w' := by
  rcases w1 with rfl | ⟨a, rfl⟩ | ⟨b, off, len, cap, C, rfl, _⟩
  · exact none_walk _ _ _ _ _
  · exact none_walk _ _ _ _ _
  · exact none_walk _ _ _ _ _
end Go.Proofs.Ythgilipffdcddaa
