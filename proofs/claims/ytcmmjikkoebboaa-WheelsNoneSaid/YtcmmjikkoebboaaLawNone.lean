/-
  The walk of the law WheelsNone. Conditions: none.
-/
import Derived.Test.YtcmmjikkoebboaaAwake
namespace Go.Proofs.Ytcmmjikkoebboaa
open Go.RowKit Kit
set_option linter.unusedVariables false
/-- a pointer whose methods do nothing -/
def Nil (w : World) (p : Value) : Prop := p = .pointer none ∨ ∃ b, p = .pointer (some ⟨b, 0, none⟩) ∧ w.cell? ⟨b, 5, none⟩ = some (.bool false)
theorem none_nil (p : Value) (w : World) (h : Nil w p) : Calls Try.prog 31 #[p] w fun e w' => e = .returned (.bool true) ∧ w = w' := by
  rcases h with rfl | ⟨b, rfl, h⟩
  · go_enter Try.func31, Try.ntmps31
    go_wp2
    go_ret
    exact ⟨rfl, rfl⟩
  · go_enter Try.func31, Try.ntmps31
    go_wp2
    go_ret
    exact ⟨rfl, rfl⟩
theorem step_nil (p : Value) (c0 c1 c2 c3 : Int) (w : World) (h : Nil w p) :
    Calls Try.prog 17 #[p, .agg #[.int .i64 c0, .int .i64 c1, .int .i64 c2, .int .i64 c3]] w fun e w' => e = .returned (.int .i64 1) ∧ Below w.heap.size w w' := by
  have h' : Nil (w.alloc (.cells #[.int .i64 c0, .int .i64 c1, .int .i64 c2, .int .i64 c3] 24)) p := by
    rcases h with rfl | ⟨b, rfl, h⟩
    · exact Or.inl rfl
    · refine Or.inr ⟨b, rfl, ?_⟩
      rw [World.cell?_alloc_lt _ _ _ (World.block_lt_of_cell? w _ h)]; exact h
  have H := Lib.hid h'; clear h h'
  go_enter Try.func17, Try.ntmps17
  go_wp2_with ((with_reducible refine (none_nil _ _ H.out).mono ?_); rintro e w' ⟨rfl, rfl⟩)
  go_ret
  exact ⟨rfl, by go_grown⟩

theorem nil_alloc {w : World} {p : Value} (h : Nil w p) (o : Obj) : Nil (w.alloc o) p := by
  rcases h with rfl | ⟨b, rfl, h⟩
  · exact Or.inl rfl
  · refine Or.inr ⟨b, rfl, ?_⟩
    rw [World.cell?_alloc_lt _ _ _ (World.block_lt_of_cell? w _ h)]; exact h
theorem fail_nil (p : Value) (i : Int) (w : World) (h : Nil w p) :
    Calls Try.prog 23 #[p, .int .i64 i] w fun e w' => e = .returned (.int .i64 1) ∧ w = w' := by
  have H := Lib.hid h; clear h
  go_enter Try.func23, Try.ntmps23
  go_wp2_with ((with_reducible refine (none_nil _ _ H.out).mono ?_); rintro e w' ⟨rfl, rfl⟩)
  go_ret
  exact ⟨rfl, rfl⟩
theorem failed_nil (p : Value) (w : World) (h : Nil w p) :
    Calls Try.prog 26 #[p] w fun e w' => e = .returned (.int .i64 (-1)) ∧ w = w' := by
  have H := Lib.hid h; clear h
  go_enter Try.func26, Try.ntmps26
  go_wp2_with ((with_reducible refine (none_nil _ _ H.out).mono ?_); rintro e w' ⟨rfl, rfl⟩)
  go_ret
  exact ⟨rfl, rfl⟩
theorem speeds_nil (p : Value) (w : World) (h : Nil w p) :
    Calls Try.prog 19 #[p] w fun e w' => e = .returned (.agg #[.int .i64 0, .int .i64 0, .int .i64 0, .int .i64 0]) ∧ w' = w.alloc (.cells #[.int .i64 0, .int .i64 0, .int .i64 0, .int .i64 0] 24) := by
  have H := Lib.hid (nil_alloc h (.cells #[.int .i64 0, .int .i64 0, .int .i64 0, .int .i64 0] 24)); clear h
  go_enter Try.func19, Try.ntmps19
  go_wp2_with ((with_reducible refine (none_nil _ _ H.out).mono ?_); rintro e w' ⟨rfl, rfl⟩)
  go_returns
  exact ⟨rfl, rfl⟩
theorem sum_nil (p : Value) (w : World) (h : Nil w p) :
    Calls Try.prog 27 #[p] w fun e w' => e = .returned (.agg #[.int .i64 0, .int .i64 0, .int .i64 0]) ∧ Below w.heap.size w w' := by
  have H := Lib.hid (nil_alloc h (.cells #[.int .i64 0, .int .i64 0, .int .i64 0] 23)); clear h
  go_enter Try.func27, Try.ntmps27
  go_wp2_with ((with_reducible refine (speeds_nil _ _ H.out).mono ?_); rintro e w' ⟨rfl, rfl⟩)
  go_returns
  exact ⟨rfl, by go_grown⟩
theorem command_nil (p : Value) (c0 c1 c2 c3 : Int) (w : World) (h : Nil w p) :
    Calls Try.prog 18 #[p, .agg #[.int .i64 c0, .int .i64 c1, .int .i64 c2, .int .i64 c3]] w fun e w' => e = .returned (.agg #[.int .i64 0, .int .i64 0, .int .i64 0, .int .i64 0]) ∧ Below w.heap.size w w' := by
  have h1 := nil_alloc h (.cells #[.int .i64 c0, .int .i64 c1, .int .i64 c2, .int .i64 c3] 24)
  have h2 := nil_alloc h1 (.cells #[.int .i64 0, .int .i64 0, .int .i64 0, .int .i64 0] 24)
  have H := Lib.hid (nil_alloc h2 (.cells #[.int .i64 0, .int .i64 0, .int .i64 0, .int .i64 0] 24)); clear h h1 h2
  go_enter Try.func18, Try.ntmps18
  go_wp2_with ((with_reducible refine (none_nil _ _ H.out).mono ?_); rintro e w' ⟨rfl, rfl⟩)
  go_returns
  exact ⟨rfl, by go_grown⟩


theorem bl_go {a b c : World} {B : Nat} (g : Below a.heap.size a b) (h : Below B b c) (hB : a.heap.size ≤ B) : Below a.heap.size a c := g.trans (h.mono hB)
theorem speeds_nil_ (p : Value) (w : World) (h : Nil w p) :
    Calls Try.prog 19 #[p] w fun e w' => e = .returned (.agg #[.int .i64 0, .int .i64 0, .int .i64 0, .int .i64 0]) ∧ Below w.heap.size w w' :=
  (speeds_nil p w h).mono fun _ _ ⟨h1, h2⟩ => ⟨h1, h2 ▸ (Below.refl _ _).alloc (Nat.le_refl _) _⟩
set_option maxHeartbeats 6400000 in
theorem WheelsNone_walk (a0_0 : Int) (a0_1 : Int) (a0_2 : Int) (a0_3 : Int) (a1 : Int) (w : World) (w0_0 : (Lit.int .i64 a0_0).wf = true) (w0_1 : (Lit.int .i64 a0_1).wf = true) (w0_2 : (Lit.int .i64 a0_2).wf = true) (w0_3 : (Lit.int .i64 a0_3).wf = true) (w1 : (Lit.int .i64 a1).wf = true) :
    Calls Try.prog 8 #[.agg #[.int .i64 a0_0, .int .i64 a0_1, .int .i64 a0_2, .int .i64 a0_3], .int .i64 a1] w fun e w' => e = .returned (.bool true) ∧ Below w.heap.size w w' := by
  clear w0_0 w0_1 w0_2 w0_3 w1
  go_enter Try.func8, Try.ntmps8
  go_wp2_with (fail)
  refine wp_loop_rounds 3 ?_
  rw [rounds_succ]
  go_wp2_with (fail)
  refine (step_nil _ _ _ _ _ _ (Or.inl rfl)).mono ?_
  rintro e w1 ⟨rfl, hb1⟩
  obtain ⟨hc, hf⟩ := bcell hb1
  have hs1 := hb1.size
  try simp only [World.size_alloc] at hs1 hc hf hb1
  have B1 := Lib.hid hb1; clear hb1
  have x1_0 : w1.cell? ⟨w.heap.size, 0, none⟩ = some (.int .i64 a0_0) := by rw [hc _ _ (by omega)]; go_simp
  have x1_1 : w1.cell? ⟨w.heap.size, 1, none⟩ = some (.int .i64 a0_1) := by rw [hc _ _ (by omega)]; go_simp
  have x1_2 : w1.cell? ⟨w.heap.size, 2, none⟩ = some (.int .i64 a0_2) := by rw [hc _ _ (by omega)]; go_simp
  have x1_3 : w1.cell? ⟨w.heap.size, 3, none⟩ = some (.int .i64 a0_3) := by rw [hc _ _ (by omega)]; go_simp
  have l1 : w.heap.size < w1.heap.size := by omega
  have x2_5 : w1.cell? ⟨w.heap.size + 1, 5, none⟩ = some (.bool false) := by rw [hc _ _ (by omega)]; go_simp
  have l2 : w.heap.size + 1 < w1.heap.size := by omega
  have x3_0 : w1.cell? ⟨w.heap.size + 1 + 1, 0, none⟩ = some (.pointer none) := by rw [hc _ _ (by omega)]; go_simp
  have x3_1 : w1.cell? ⟨w.heap.size + 1 + 1, 1, none⟩ = some (.pointer (some ⟨w.heap.size + 1, 0, none⟩)) := by rw [hc _ _ (by omega)]; go_simp
  have l3 : w.heap.size + 1 + 1 < w1.heap.size := by omega
  have hg : w.heap.size ≤ w1.heap.size := by omega
  clear hc hf
  go_wp2_with (fail)
  refine (fail_nil _ _ _ (Or.inl rfl)).mono ?_
  rintro e _ ⟨rfl, rfl⟩
  go_wp2_with (fail)
  refine (failed_nil _ _ (Or.inl rfl)).mono ?_
  rintro e _ ⟨rfl, rfl⟩
  go_wp2_with (fail)
  refine (speeds_nil_ _ _ (Or.inl rfl)).mono ?_
  rintro e w2 ⟨rfl, hb2⟩
  obtain ⟨hc, hf⟩ := bcell hb2
  have hs2 := hb2.size
  try simp only [World.size_alloc] at hs2 hc hf hb2
  have B2 := Lib.hid hb2; clear hb2
  replace x1_0 : w2.cell? ⟨w.heap.size, 0, none⟩ = some (.int .i64 a0_0) := by rw [hc _ _ (by omega)]; go_simp
  replace x1_1 : w2.cell? ⟨w.heap.size, 1, none⟩ = some (.int .i64 a0_1) := by rw [hc _ _ (by omega)]; go_simp
  replace x1_2 : w2.cell? ⟨w.heap.size, 2, none⟩ = some (.int .i64 a0_2) := by rw [hc _ _ (by omega)]; go_simp
  replace x1_3 : w2.cell? ⟨w.heap.size, 3, none⟩ = some (.int .i64 a0_3) := by rw [hc _ _ (by omega)]; go_simp
  replace l1 : w.heap.size < w2.heap.size := by omega
  replace x2_5 : w2.cell? ⟨w.heap.size + 1, 5, none⟩ = some (.bool false) := by rw [hc _ _ (by omega)]; go_simp
  replace l2 : w.heap.size + 1 < w2.heap.size := by omega
  replace x3_0 : w2.cell? ⟨w.heap.size + 1 + 1, 0, none⟩ = some (.pointer none) := by rw [hc _ _ (by omega)]; go_simp
  replace x3_1 : w2.cell? ⟨w.heap.size + 1 + 1, 1, none⟩ = some (.pointer (some ⟨w.heap.size + 1, 0, none⟩)) := by rw [hc _ _ (by omega)]; go_simp
  replace l3 : w.heap.size + 1 + 1 < w2.heap.size := by omega
  replace hg : w.heap.size ≤ w2.heap.size := by omega
  clear hc hf
  go_wp2_with (fail)
  refine (sum_nil _ _ (Or.inl rfl)).mono ?_
  rintro e w3 ⟨rfl, hb3⟩
  obtain ⟨hc, hf⟩ := bcell hb3
  have hs3 := hb3.size
  try simp only [World.size_alloc] at hs3 hc hf hb3
  have B3 := Lib.hid hb3; clear hb3
  replace x1_0 : w3.cell? ⟨w.heap.size, 0, none⟩ = some (.int .i64 a0_0) := by rw [hc _ _ (by omega)]; go_simp
  replace x1_1 : w3.cell? ⟨w.heap.size, 1, none⟩ = some (.int .i64 a0_1) := by rw [hc _ _ (by omega)]; go_simp
  replace x1_2 : w3.cell? ⟨w.heap.size, 2, none⟩ = some (.int .i64 a0_2) := by rw [hc _ _ (by omega)]; go_simp
  replace x1_3 : w3.cell? ⟨w.heap.size, 3, none⟩ = some (.int .i64 a0_3) := by rw [hc _ _ (by omega)]; go_simp
  replace l1 : w.heap.size < w3.heap.size := by omega
  replace x2_5 : w3.cell? ⟨w.heap.size + 1, 5, none⟩ = some (.bool false) := by rw [hc _ _ (by omega)]; go_simp
  replace l2 : w.heap.size + 1 < w3.heap.size := by omega
  replace x3_0 : w3.cell? ⟨w.heap.size + 1 + 1, 0, none⟩ = some (.pointer none) := by rw [hc _ _ (by omega)]; go_simp
  replace x3_1 : w3.cell? ⟨w.heap.size + 1 + 1, 1, none⟩ = some (.pointer (some ⟨w.heap.size + 1, 0, none⟩)) := by rw [hc _ _ (by omega)]; go_simp
  replace l3 : w.heap.size + 1 + 1 < w3.heap.size := by omega
  replace hg : w.heap.size ≤ w3.heap.size := by omega
  clear hc hf
  go_wp2_with (fail)
  refine (command_nil _ _ _ _ _ _ (Or.inl rfl)).mono ?_
  rintro e w4 ⟨rfl, hb4⟩
  obtain ⟨hc, hf⟩ := bcell hb4
  have hs4 := hb4.size
  try simp only [World.size_alloc] at hs4 hc hf hb4
  have B4 := Lib.hid hb4; clear hb4
  replace x1_0 : w4.cell? ⟨w.heap.size, 0, none⟩ = some (.int .i64 a0_0) := by rw [hc _ _ (by omega)]; go_simp
  replace x1_1 : w4.cell? ⟨w.heap.size, 1, none⟩ = some (.int .i64 a0_1) := by rw [hc _ _ (by omega)]; go_simp
  replace x1_2 : w4.cell? ⟨w.heap.size, 2, none⟩ = some (.int .i64 a0_2) := by rw [hc _ _ (by omega)]; go_simp
  replace x1_3 : w4.cell? ⟨w.heap.size, 3, none⟩ = some (.int .i64 a0_3) := by rw [hc _ _ (by omega)]; go_simp
  replace l1 : w.heap.size < w4.heap.size := by omega
  replace x2_5 : w4.cell? ⟨w.heap.size + 1, 5, none⟩ = some (.bool false) := by rw [hc _ _ (by omega)]; go_simp
  replace l2 : w.heap.size + 1 < w4.heap.size := by omega
  replace x3_0 : w4.cell? ⟨w.heap.size + 1 + 1, 0, none⟩ = some (.pointer none) := by rw [hc _ _ (by omega)]; go_simp
  replace x3_1 : w4.cell? ⟨w.heap.size + 1 + 1, 1, none⟩ = some (.pointer (some ⟨w.heap.size + 1, 0, none⟩)) := by rw [hc _ _ (by omega)]; go_simp
  replace l3 : w.heap.size + 1 + 1 < w4.heap.size := by omega
  replace hg : w.heap.size ≤ w4.heap.size := by omega
  clear hc hf
  go_wp2_with (fail)
  rw [rounds_succ]
  go_wp2_with (fail)
  refine (step_nil _ _ _ _ _ _ (Or.inr ⟨_, rfl, x2_5⟩)).mono ?_
  rintro e w5 ⟨rfl, hb5⟩
  obtain ⟨hc, hf⟩ := bcell hb5
  have hs5 := hb5.size
  try simp only [World.size_alloc] at hs5 hc hf hb5
  have B5 := Lib.hid hb5; clear hb5
  replace x1_0 : w5.cell? ⟨w.heap.size, 0, none⟩ = some (.int .i64 a0_0) := by rw [hc _ _ (by omega)]; go_simp
  replace x1_1 : w5.cell? ⟨w.heap.size, 1, none⟩ = some (.int .i64 a0_1) := by rw [hc _ _ (by omega)]; go_simp
  replace x1_2 : w5.cell? ⟨w.heap.size, 2, none⟩ = some (.int .i64 a0_2) := by rw [hc _ _ (by omega)]; go_simp
  replace x1_3 : w5.cell? ⟨w.heap.size, 3, none⟩ = some (.int .i64 a0_3) := by rw [hc _ _ (by omega)]; go_simp
  replace l1 : w.heap.size < w5.heap.size := by omega
  replace x2_5 : w5.cell? ⟨w.heap.size + 1, 5, none⟩ = some (.bool false) := by rw [hc _ _ (by omega)]; go_simp
  replace l2 : w.heap.size + 1 < w5.heap.size := by omega
  replace x3_0 : w5.cell? ⟨w.heap.size + 1 + 1, 0, none⟩ = some (.pointer none) := by rw [hc _ _ (by omega)]; go_simp
  replace x3_1 : w5.cell? ⟨w.heap.size + 1 + 1, 1, none⟩ = some (.pointer (some ⟨w.heap.size + 1, 0, none⟩)) := by rw [hc _ _ (by omega)]; go_simp
  replace l3 : w.heap.size + 1 + 1 < w5.heap.size := by omega
  replace hg : w.heap.size ≤ w5.heap.size := by omega
  clear hc hf
  go_wp2_with (fail)
  refine (fail_nil _ _ _ (Or.inr ⟨_, rfl, x2_5⟩)).mono ?_
  rintro e _ ⟨rfl, rfl⟩
  go_wp2_with (fail)
  refine (failed_nil _ _ (Or.inr ⟨_, rfl, x2_5⟩)).mono ?_
  rintro e _ ⟨rfl, rfl⟩
  go_wp2_with (fail)
  refine (speeds_nil_ _ _ (Or.inr ⟨_, rfl, x2_5⟩)).mono ?_
  rintro e w6 ⟨rfl, hb6⟩
  obtain ⟨hc, hf⟩ := bcell hb6
  have hs6 := hb6.size
  try simp only [World.size_alloc] at hs6 hc hf hb6
  have B6 := Lib.hid hb6; clear hb6
  replace x1_0 : w6.cell? ⟨w.heap.size, 0, none⟩ = some (.int .i64 a0_0) := by rw [hc _ _ (by omega)]; go_simp
  replace x1_1 : w6.cell? ⟨w.heap.size, 1, none⟩ = some (.int .i64 a0_1) := by rw [hc _ _ (by omega)]; go_simp
  replace x1_2 : w6.cell? ⟨w.heap.size, 2, none⟩ = some (.int .i64 a0_2) := by rw [hc _ _ (by omega)]; go_simp
  replace x1_3 : w6.cell? ⟨w.heap.size, 3, none⟩ = some (.int .i64 a0_3) := by rw [hc _ _ (by omega)]; go_simp
  replace l1 : w.heap.size < w6.heap.size := by omega
  replace x2_5 : w6.cell? ⟨w.heap.size + 1, 5, none⟩ = some (.bool false) := by rw [hc _ _ (by omega)]; go_simp
  replace l2 : w.heap.size + 1 < w6.heap.size := by omega
  replace x3_0 : w6.cell? ⟨w.heap.size + 1 + 1, 0, none⟩ = some (.pointer none) := by rw [hc _ _ (by omega)]; go_simp
  replace x3_1 : w6.cell? ⟨w.heap.size + 1 + 1, 1, none⟩ = some (.pointer (some ⟨w.heap.size + 1, 0, none⟩)) := by rw [hc _ _ (by omega)]; go_simp
  replace l3 : w.heap.size + 1 + 1 < w6.heap.size := by omega
  replace hg : w.heap.size ≤ w6.heap.size := by omega
  clear hc hf
  go_wp2_with (fail)
  refine (sum_nil _ _ (Or.inr ⟨_, rfl, x2_5⟩)).mono ?_
  rintro e w7 ⟨rfl, hb7⟩
  obtain ⟨hc, hf⟩ := bcell hb7
  have hs7 := hb7.size
  try simp only [World.size_alloc] at hs7 hc hf hb7
  have B7 := Lib.hid hb7; clear hb7
  replace x1_0 : w7.cell? ⟨w.heap.size, 0, none⟩ = some (.int .i64 a0_0) := by rw [hc _ _ (by omega)]; go_simp
  replace x1_1 : w7.cell? ⟨w.heap.size, 1, none⟩ = some (.int .i64 a0_1) := by rw [hc _ _ (by omega)]; go_simp
  replace x1_2 : w7.cell? ⟨w.heap.size, 2, none⟩ = some (.int .i64 a0_2) := by rw [hc _ _ (by omega)]; go_simp
  replace x1_3 : w7.cell? ⟨w.heap.size, 3, none⟩ = some (.int .i64 a0_3) := by rw [hc _ _ (by omega)]; go_simp
  replace l1 : w.heap.size < w7.heap.size := by omega
  replace x2_5 : w7.cell? ⟨w.heap.size + 1, 5, none⟩ = some (.bool false) := by rw [hc _ _ (by omega)]; go_simp
  replace l2 : w.heap.size + 1 < w7.heap.size := by omega
  replace x3_0 : w7.cell? ⟨w.heap.size + 1 + 1, 0, none⟩ = some (.pointer none) := by rw [hc _ _ (by omega)]; go_simp
  replace x3_1 : w7.cell? ⟨w.heap.size + 1 + 1, 1, none⟩ = some (.pointer (some ⟨w.heap.size + 1, 0, none⟩)) := by rw [hc _ _ (by omega)]; go_simp
  replace l3 : w.heap.size + 1 + 1 < w7.heap.size := by omega
  replace hg : w.heap.size ≤ w7.heap.size := by omega
  clear hc hf
  go_wp2_with (fail)
  refine (command_nil _ _ _ _ _ _ (Or.inr ⟨_, rfl, x2_5⟩)).mono ?_
  rintro e w8 ⟨rfl, hb8⟩
  obtain ⟨hc, hf⟩ := bcell hb8
  have hs8 := hb8.size
  try simp only [World.size_alloc] at hs8 hc hf hb8
  have B8 := Lib.hid hb8; clear hb8
  replace x1_0 : w8.cell? ⟨w.heap.size, 0, none⟩ = some (.int .i64 a0_0) := by rw [hc _ _ (by omega)]; go_simp
  replace x1_1 : w8.cell? ⟨w.heap.size, 1, none⟩ = some (.int .i64 a0_1) := by rw [hc _ _ (by omega)]; go_simp
  replace x1_2 : w8.cell? ⟨w.heap.size, 2, none⟩ = some (.int .i64 a0_2) := by rw [hc _ _ (by omega)]; go_simp
  replace x1_3 : w8.cell? ⟨w.heap.size, 3, none⟩ = some (.int .i64 a0_3) := by rw [hc _ _ (by omega)]; go_simp
  replace l1 : w.heap.size < w8.heap.size := by omega
  replace x2_5 : w8.cell? ⟨w.heap.size + 1, 5, none⟩ = some (.bool false) := by rw [hc _ _ (by omega)]; go_simp
  replace l2 : w.heap.size + 1 < w8.heap.size := by omega
  replace x3_0 : w8.cell? ⟨w.heap.size + 1 + 1, 0, none⟩ = some (.pointer none) := by rw [hc _ _ (by omega)]; go_simp
  replace x3_1 : w8.cell? ⟨w.heap.size + 1 + 1, 1, none⟩ = some (.pointer (some ⟨w.heap.size + 1, 0, none⟩)) := by rw [hc _ _ (by omega)]; go_simp
  replace l3 : w.heap.size + 1 + 1 < w8.heap.size := by omega
  replace hg : w.heap.size ≤ w8.heap.size := by omega
  clear hc hf
  go_wp2_with (fail)
  rw [rounds_succ]
  go_wp2_with (fail)
  refine (awake_any _).mono ?_
  rintro e w9 ⟨rfl, hb9⟩
  obtain ⟨hc, hf⟩ := bcell hb9
  have hs9 := hb9.size
  try simp only [World.size_alloc] at hs9 hc hf hb9
  have B9 := Lib.hid hb9; clear hb9
  replace hg : w.heap.size ≤ w9.heap.size := by omega
  clear hc hf
  go_wp2_with (fail)
  go_ret
  refine ⟨rfl, ?_⟩
  exact (bl_go (bl_go (bl_go (bl_go (bl_go (bl_go (bl_go (bl_go (bl_go (bl_alloc (bl_alloc (bl_alloc (Below.refl _ _) _) _) _) B1.out (by omega)) B2.out (by omega)) B3.out (by omega)) B4.out (by omega)) B5.out (by omega)) B6.out (by omega)) B7.out (by omega)) B8.out (by omega)) B9.out (by omega))
end Go.Proofs.Ytcmmjikkoebboaa
