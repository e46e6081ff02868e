/-
  The walk of the law WheelsSteady. Conditions: none.
-/
import Derived.Test.YtcmmjikkoebboaaAwake
namespace Go.Proofs.Ytcmmjikkoebboaa
open Go.RowKit Kit
set_option linter.unusedVariables false
theorem bl_go {a b c : World} {B : Nat} (g : Below a.heap.size a b) (h : Below B b c) (hB : a.heap.size ≤ B) : Below a.heap.size a c := g.trans (h.mono hB)
theorem absI_bd (a n : Int) (h : -n ≤ a ∧ a ≤ n) : 0 ≤ absI a ∧ absI a ≤ n := by unfold absI; omega
theorem zOf_m1 (d0 d1 d2 : Int) : zOf d0 d1 d2 (-1) = (max (max (max d0 d1) d2) 0 + min (min (min d0 d1) d2) 0) / 2 := by simp [zOf]
theorem steady_plain (d0 d1 d2 x0 x1 x2 m f : Int) (hf : -1 ≤ f ∧ f ≤ 3) (h0 : absI x0 ≤ m) (h1 : absI x1 ≤ m) (h2 : absI x2 ≤ m) :
    absI ((d0 - zOf d0 d1 d2 f) - (d0 + x0 - zOf (d0 + x0) (d1 + x1) (d2 + x2) f)) ≤ 2 * m + 1 ∧
    absI ((d1 - zOf d0 d1 d2 f) - (d1 + x1 - zOf (d0 + x0) (d1 + x1) (d2 + x2) f)) ≤ 2 * m + 1 ∧
    absI ((d2 - zOf d0 d1 d2 f) - (d2 + x2 - zOf (d0 + x0) (d1 + x1) (d2 + x2) f)) ≤ 2 * m + 1 ∧
    absI (zOf d0 d1 d2 f - zOf (d0 + x0) (d1 + x1) (d2 + x2) f) ≤ 2 * m + 1 := by
  have key : -m - 1 ≤ zOf d0 d1 d2 f - zOf (d0 + x0) (d1 + x1) (d2 + x2) f ∧ zOf d0 d1 d2 f - zOf (d0 + x0) (d1 + x1) (d2 + x2) f ≤ m + 1 := by
    have hm : 0 ≤ m := by unfold absI at h0; omega
    obtain rfl | rfl | rfl | rfl | rfl : f = -1 ∨ f = 0 ∨ f = 1 ∨ f = 2 ∨ f = 3 := by omega
    · rw [zOf_m1, zOf_m1]
      have a1 : ∀ a b : Int, absI (b) ≤ m → -m ≤ b ∧ b ≤ m := by intro a b h; unfold absI at h; omega
      have b0 := a1 0 _ h0
      have b1 := a1 0 _ h1
      have b2 := a1 0 _ h2
      have u1 : max (max (max d0 d1) d2) 0 - max (max (max (d0 + x0) (d1 + x1)) (d2 + x2)) 0 ≤ m ∧ -m ≤ max (max (max d0 d1) d2) 0 - max (max (max (d0 + x0) (d1 + x1)) (d2 + x2)) 0 := by omega
      have u2 : min (min (min d0 d1) d2) 0 - min (min (min (d0 + x0) (d1 + x1)) (d2 + x2)) 0 ≤ m ∧ -m ≤ min (min (min d0 d1) d2) 0 - min (min (min (d0 + x0) (d1 + x1)) (d2 + x2)) 0 := by omega
      generalize max (max (max d0 d1) d2) 0 = p1 at *
      generalize max (max (max (d0 + x0) (d1 + x1)) (d2 + x2)) 0 = p2 at *
      generalize min (min (min d0 d1) d2) 0 = p3 at *
      generalize min (min (min (d0 + x0) (d1 + x1)) (d2 + x2)) 0 = p4 at *
      omega
    all_goals (simp [zOf]; unfold absI at h0 h1 h2; omega)
  generalize zOf d0 d1 d2 f = z at *
  generalize zOf (d0 + x0) (d1 + x1) (d2 + x2) f = y at *
  unfold absI at *
  omega
set_option maxHeartbeats 1600000 in
theorem steady_out1 (d0 d1 d2 x0 x1 x2 f : Int) (w : World) (h : f < -1 ∨ 3 < f ∨ vld d0 d1 d2 = false) :
    Calls Try.prog 5 #[.agg #[.int .i64 d0, .int .i64 d1, .int .i64 d2], .agg #[.int .i64 x0, .int .i64 x1, .int .i64 x2], .int .i64 f] w fun e w' => e = .returned (.bool true) ∧ Below w.heap.size w w' := by
  by_cases h1 : f < -1
  · clear h
    go_enter Try.func5, Try.ntmps5
    go_wp2_with (first | ((with_reducible refine (awake_any _).mono ?_); rintro e w9 ⟨rfl, hb9⟩) | ((with_reducible refine (size_any _ _ (by omega) (by omega)).mono ?_); rintro e w' ⟨rfl, rfl⟩))
    go_ret
    exact ⟨rfl, bl_step (bl_alloc (bl_alloc (Below.refl _ _) _) _) hb9⟩
  · by_cases h2 : 3 < f
    · clear h
      go_enter Try.func5, Try.ntmps5
      go_wp2_with (first | ((with_reducible refine (awake_any _).mono ?_); rintro e w9 ⟨rfl, hb9⟩) | ((with_reducible refine (size_any _ _ (by omega) (by omega)).mono ?_); rintro e w' ⟨rfl, rfl⟩))
      go_ret
      exact ⟨rfl, bl_step (bl_alloc (bl_alloc (Below.refl _ _) _) _) hb9⟩
    · have h3 : vld d0 d1 d2 = false := by rcases h with h | h | h; omega; omega; exact h
      clear h
      go_enter Try.func5, Try.ntmps5
      go_wp2_with (fail)
      refine (lawvalid_any _ _ _ _).mono ?_
      rintro e w1 ⟨rfl, hb1⟩
      go_wp2_with (first | ((with_reducible refine (awake_any _).mono ?_); rintro e w9 ⟨rfl, hb9⟩) | ((with_reducible refine (size_any _ _ (by omega) (by omega)).mono ?_); rintro e w' ⟨rfl, rfl⟩))
      go_ret
      exact ⟨rfl, bl_step (bl_step (bl_alloc (bl_alloc (Below.refl _ _) _) _) hb1) hb9⟩
theorem below_drew_ {B : Nat} {a w : World} (h : Below B a w) : Below B a w.drew := h.drew
set_option maxHeartbeats 3200000 in
theorem steady_out2 (d0 d1 d2 x0 x1 x2 f : Int) (w : World) (f1 : -1 ≤ f) (f2 : f ≤ 3) (h3 : vld d0 d1 d2 = true) (h : x0 < -1073741824 ∨ 1073741824 < x0 ∨ d0 < -274877906944 ∨ 274877906944 < d0 ∨ x1 < -1073741824 ∨ 1073741824 < x1 ∨ d1 < -274877906944 ∨ 274877906944 < d1 ∨ x2 < -1073741824 ∨ 1073741824 < x2 ∨ d2 < -274877906944 ∨ 274877906944 < d2) :
    Calls Try.prog 5 #[.agg #[.int .i64 d0, .int .i64 d1, .int .i64 d2], .agg #[.int .i64 x0, .int .i64 x1, .int .i64 x2], .int .i64 f] w fun e w' => e = .returned (.bool true) ∧ Below w.heap.size w w' := by
  obtain ⟨b1, b2, b3, b4, b5, b6⟩ := vld_bd h3
  have gmx := fun w x y => run_max_mx Try.prog w #[2, 2] 2 .i64 .i64 x y
  have H := Lib.hid h; clear h
  go_enter Try.func5, Try.ntmps5
  go_wp2_with (fail)
  go_wp2_with (fail)
  refine (lawvalid_any _ _ _ _).mono ?_
  rintro e w1 ⟨rfl, hb1⟩
  obtain ⟨hc, hf⟩ := bcell hb1
  have hs1 := hb1.size
  try simp only [World.size_alloc] at hs1 hc hf hb1
  have B1 := Lib.hid hb1; clear hb1
  have x1_0 : w1.cell? ⟨w.heap.size, 0, none⟩ = some (.int .i64 d0) := by rw [hc _ _ (by omega)]; go_simp
  have x1_1 : w1.cell? ⟨w.heap.size, 1, none⟩ = some (.int .i64 d1) := by rw [hc _ _ (by omega)]; go_simp
  have x1_2 : w1.cell? ⟨w.heap.size, 2, none⟩ = some (.int .i64 d2) := by rw [hc _ _ (by omega)]; go_simp
  have l1 : w.heap.size < w1.heap.size := by omega
  have x2_0 : w1.cell? ⟨w.heap.size + 1, 0, none⟩ = some (.int .i64 x0) := by rw [hc _ _ (by omega)]; go_simp
  have x2_1 : w1.cell? ⟨w.heap.size + 1, 1, none⟩ = some (.int .i64 x1) := by rw [hc _ _ (by omega)]; go_simp
  have x2_2 : w1.cell? ⟨w.heap.size + 1, 2, none⟩ = some (.int .i64 x2) := by rw [hc _ _ (by omega)]; go_simp
  have l2 : w.heap.size + 1 < w1.heap.size := by omega
  have hg : w.heap.size ≤ w1.heap.size := by omega
  clear hc hf
  go_wp2_with (fail)
  refine wp_loop_rounds 4 ?_
  iterate 3
    any_goals (rw [rounds_succ]; go_wp2_with (first | ((with_reducible refine (awake_any _).mono ?_); rintro e w9 ⟨rfl, hb9⟩) | ((with_reducible refine (size_any _ _ (by omega) (by omega)).mono ?_); rintro e w' ⟨rfl, rfl⟩)))
    any_goals (refine region_still_tail 9 (by kernel_rfl) (by kernel_rfl) ?_; simp only [List.take_succ_cons, List.take_zero, List.drop_succ_cons, List.drop_zero]; (repeat still_step); refine wpStill_nil ?_; go_wp2_with (fail))
  any_goals (rw [rounds_succ]; go_wp2_with (fail))
  all_goals first
    | (go_ret; exact ⟨rfl, bl_step (by first | exact (bl_alloc (bl_go (bl_alloc (bl_alloc (Below.refl _ _) _) _) B1.out (by omega)) _) | exact below_drew_ (bl_alloc (bl_go (bl_alloc (bl_alloc (Below.refl _ _) _) _) B1.out (by omega)) _) | exact below_drew_ (below_drew_ (bl_alloc (bl_go (bl_alloc (bl_alloc (Below.refl _ _) _) _) B1.out (by omega)) _)) | exact below_drew_ (below_drew_ (below_drew_ (bl_alloc (bl_go (bl_alloc (bl_alloc (Below.refl _ _) _) _) B1.out (by omega)) _)))) hb9⟩)
    | (exfalso; have := H.out; omega)
theorem zOf_bd {d0 d1 d2 f : Int} (h : vld d0 d1 d2 = true) : -1099511627776 ≤ zOf d0 d1 d2 f ∧ zOf d0 d1 d2 f ≤ 1099511627776 := by
  obtain ⟨b1, b2, b3, b4, b5, b6⟩ := vld_bd h
  by_cases h1 : f = -1
  · subst h1; rw [zOf_m1]; omega
  · unfold zOf; rw [if_neg h1]; split; omega; split; omega; split <;> omega
theorem allocV_good {d0 d1 d2 f : Int} (h1 : vld d0 d1 d2 = true) (h2 : isB f = true) :
    allocV d0 d1 d2 f = .tuple #[.agg #[.int .i64 (d0 - zOf d0 d1 d2 f), .int .i64 (d1 - zOf d0 d1 d2 f), .int .i64 (d2 - zOf d0 d1 d2 f), .int .i64 (zOf d0 d1 d2 f)], .int .i64 0] := by
  unfold allocV; simp [h1, h2, four]
set_option maxHeartbeats 3200000 in
theorem steady_in (d0 d1 d2 x0 x1 x2 f : Int) (w : World) (f1 : -1 ≤ f) (f2 : f ≤ 3) (h3 : vld d0 d1 d2 = true) (p0 : -1073741824 ≤ x0) (q0 : x0 ≤ 1073741824) (r0 : -274877906944 ≤ d0) (t0 : d0 ≤ 274877906944) (p1 : -1073741824 ≤ x1) (q1 : x1 ≤ 1073741824) (r1 : -274877906944 ≤ d1) (t1 : d1 ≤ 274877906944) (p2 : -1073741824 ≤ x2) (q2 : x2 ≤ 1073741824) (r2 : -274877906944 ≤ d2) (t2 : d2 ≤ 274877906944) :
    Calls Try.prog 5 #[.agg #[.int .i64 d0, .int .i64 d1, .int .i64 d2], .agg #[.int .i64 x0, .int .i64 x1, .int .i64 x2], .int .i64 f] w fun e w' => e = .returned (.bool true) ∧ Below w.heap.size w w' := by
  obtain ⟨b1, b2, b3, b4, b5, b6⟩ := vld_bd h3
  have gmx := fun w x y => run_max_mx Try.prog w #[2, 2] 2 .i64 .i64 x y
  obtain ⟨a0, c0⟩ := absI_bd x0 1073741824 (by omega)
  obtain ⟨a1, c1⟩ := absI_bd x1 1073741824 (by omega)
  obtain ⟨a2, c2⟩ := absI_bd x2 1073741824 (by omega)
  obtain ⟨m1, m2⟩ : 0 ≤ mx (mx (mx 0 (absI x0)) (absI x1)) (absI x2) ∧ mx (mx (mx 0 (absI x0)) (absI x1)) (absI x2) ≤ 1073741824 := by simp only [mx]; omega
  have hB : isB f = true := by simp [isB]; omega
  have SP := steady_plain d0 d1 d2 x0 x1 x2 (mx (mx (mx 0 (absI x0)) (absI x1)) (absI x2)) f ⟨f1, f2⟩ (by simp only [mx]; omega) (by simp only [mx]; omega) (by simp only [mx]; omega)
  have hv2 : vld (d0 + x0) (d1 + x1) (d2 + x2) = true := by simp only [vld, inV, Bool.and_eq_true, decide_eq_true_eq]; omega
  have V1 : ∃ z, z = zOf d0 d1 d2 f := ⟨_, rfl⟩
  have V2 : ∃ y, y = zOf (d0 + x0) (d1 + x1) (d2 + x2) f := ⟨_, rfl⟩
  obtain ⟨z, hz⟩ := V1
  obtain ⟨y, hy⟩ := V2
  have HA := Lib.hid (allocV_good h3 hB)
  have HC := Lib.hid (allocV_good hv2 hB)
  rw [← hz] at HA SP
  rw [← hy] at HC SP
  have zb : -1099511627776 ≤ z ∧ z ≤ 1099511627776 := by rw [hz]; exact zOf_bd h3
  have yb : -1099511627776 ≤ y ∧ y ≤ 1099511627776 := by rw [hy]; exact zOf_bd hv2
  obtain ⟨zb1, zb2⟩ := zb
  obtain ⟨yb1, yb2⟩ := yb
  have S0 := Lib.hid SP.1
  have S1 := Lib.hid SP.2.1
  have S2 := Lib.hid SP.2.2.1
  have S3 := Lib.hid SP.2.2.2
  clear SP hz hy hv2 hB
  have e0 : IntKind.i64.wrap (d0 + x0) = d0 + x0 := IntWalk.i64_in _ (by omega)
  have e1 : IntKind.i64.wrap (d1 + x1) = d1 + x1 := IntWalk.i64_in _ (by omega)
  have e2 : IntKind.i64.wrap (d2 + x2) = d2 + x2 := IntWalk.i64_in _ (by omega)
  go_enter Try.func5, Try.ntmps5
  go_wp2_with (fail)
  go_wp2_with (fail)
  refine (lawvalid_any _ _ _ _).mono ?_
  rintro e w1 ⟨rfl, hb1⟩
  obtain ⟨hc, hf⟩ := bcell hb1
  have hs1 := hb1.size
  try simp only [World.size_alloc] at hs1 hc hf hb1
  have B1 := Lib.hid hb1; clear hb1
  have x1_0 : w1.cell? ⟨w.heap.size, 0, none⟩ = some (.int .i64 d0) := by rw [hc _ _ (by omega)]; go_simp
  have x1_1 : w1.cell? ⟨w.heap.size, 1, none⟩ = some (.int .i64 d1) := by rw [hc _ _ (by omega)]; go_simp
  have x1_2 : w1.cell? ⟨w.heap.size, 2, none⟩ = some (.int .i64 d2) := by rw [hc _ _ (by omega)]; go_simp
  have l1 : w.heap.size < w1.heap.size := by omega
  have x2_0 : w1.cell? ⟨w.heap.size + 1, 0, none⟩ = some (.int .i64 x0) := by rw [hc _ _ (by omega)]; go_simp
  have x2_1 : w1.cell? ⟨w.heap.size + 1, 1, none⟩ = some (.int .i64 x1) := by rw [hc _ _ (by omega)]; go_simp
  have x2_2 : w1.cell? ⟨w.heap.size + 1, 2, none⟩ = some (.int .i64 x2) := by rw [hc _ _ (by omega)]; go_simp
  have l2 : w.heap.size + 1 < w1.heap.size := by omega
  have hg : w.heap.size ≤ w1.heap.size := by omega
  clear hc hf
  go_wp2_with (fail)
  refine wp_loop_rounds 4 ?_
  iterate 3
    (rw [rounds_succ]; go_wp2_with (first | ((with_reducible refine (awake_any _).mono ?_); rintro e w9 ⟨rfl, hb9⟩) | ((with_reducible refine (size_any _ _ (by omega) (by omega)).mono ?_); rintro e w' ⟨rfl, rfl⟩)))
    (refine region_still_tail 9 (by kernel_rfl) (by kernel_rfl) ?_; simp only [List.take_succ_cons, List.take_zero, List.drop_succ_cons, List.drop_zero]; (repeat still_step); refine wpStill_nil ?_; go_wp2_with (fail))
  rw [rounds_succ]
  clear e0 e1 e2
  go_wp2_with (fail)
  refine (alloc_any _ _ _ _ _).mono ?_
  rw [HA.out]
  rintro e w2 ⟨rfl, hb2⟩
  obtain ⟨hc, hf⟩ := bcell hb2
  have hs2 := hb2.size
  try simp only [World.size_alloc, World.size_drew] at hs2 hc hf hb2
  have B2 := Lib.hid hb2; clear hb2
  replace x1_0 : w2.cell? ⟨w.heap.size, 0, none⟩ = some (.int .i64 d0) := by rw [hc _ _ (by omega)]; go_simp
  replace x1_1 : w2.cell? ⟨w.heap.size, 1, none⟩ = some (.int .i64 d1) := by rw [hc _ _ (by omega)]; go_simp
  replace x1_2 : w2.cell? ⟨w.heap.size, 2, none⟩ = some (.int .i64 d2) := by rw [hc _ _ (by omega)]; go_simp
  replace l1 : w.heap.size < w2.heap.size := by omega
  have x3_0 : w2.cell? ⟨w1.heap.size, 0, none⟩ = some (.int .i64 (d0 + x0)) := by rw [hc _ _ (by omega)]; go_simp
  have x3_1 : w2.cell? ⟨w1.heap.size, 1, none⟩ = some (.int .i64 (d1 + x1)) := by rw [hc _ _ (by omega)]; go_simp
  have x3_2 : w2.cell? ⟨w1.heap.size, 2, none⟩ = some (.int .i64 (d2 + x2)) := by rw [hc _ _ (by omega)]; go_simp
  have l3 : w1.heap.size < w2.heap.size := by omega
  replace hg : w.heap.size ≤ w2.heap.size := by omega
  clear hc hf
  go_wp2_with (fail)
  refine (alloc_any _ _ _ _ _).mono ?_
  rw [HC.out]
  rintro e w3 ⟨rfl, hb3⟩
  obtain ⟨hc, hf⟩ := bcell hb3
  have hs3 := hb3.size
  try simp only [World.size_alloc] at hs3 hc hf hb3
  have B3 := Lib.hid hb3; clear hb3
  replace x1_0 : w3.cell? ⟨w.heap.size, 0, none⟩ = some (.int .i64 d0) := by rw [hc _ _ (by omega)]; go_simp
  replace x1_1 : w3.cell? ⟨w.heap.size, 1, none⟩ = some (.int .i64 d1) := by rw [hc _ _ (by omega)]; go_simp
  replace x1_2 : w3.cell? ⟨w.heap.size, 2, none⟩ = some (.int .i64 d2) := by rw [hc _ _ (by omega)]; go_simp
  replace l1 : w.heap.size < w3.heap.size := by omega
  replace x3_0 : w3.cell? ⟨w1.heap.size, 0, none⟩ = some (.int .i64 (d0 + x0)) := by rw [hc _ _ (by omega)]; go_simp
  replace x3_1 : w3.cell? ⟨w1.heap.size, 1, none⟩ = some (.int .i64 (d1 + x1)) := by rw [hc _ _ (by omega)]; go_simp
  replace x3_2 : w3.cell? ⟨w1.heap.size, 2, none⟩ = some (.int .i64 (d2 + x2)) := by rw [hc _ _ (by omega)]; go_simp
  replace l3 : w1.heap.size < w3.heap.size := by omega
  have x4_0 : w3.cell? ⟨w2.heap.size, 0, none⟩ = some (.int .i64 (d0 - z)) := by rw [hc _ _ (by omega)]; go_simp
  have x4_1 : w3.cell? ⟨w2.heap.size, 1, none⟩ = some (.int .i64 (d1 - z)) := by rw [hc _ _ (by omega)]; go_simp
  have x4_2 : w3.cell? ⟨w2.heap.size, 2, none⟩ = some (.int .i64 (d2 - z)) := by rw [hc _ _ (by omega)]; go_simp
  have x4_3 : w3.cell? ⟨w2.heap.size, 3, none⟩ = some (.int .i64 z) := by rw [hc _ _ (by omega)]; go_simp
  have l4 : w2.heap.size < w3.heap.size := by omega
  replace hg : w.heap.size ≤ w3.heap.size := by omega
  clear hc hf
  go_wp2_with (fail)
  have AW := Lib.hid awake_any
  have GG := Lib.hid hg
  refine wp_loop_rounds 5 ?_
  rw [rounds_succ]
  go_wp2_with (fail)
  have e0 : IntKind.i64.wrap (d0 - z - (d0 + x0 - y)) = d0 - z - (d0 + x0 - y) := IntWalk.i64_in _ (by omega)
  have e1 : IntKind.i64.wrap (2 * (mx (mx (mx 0 (absI x0)) (absI x1)) (absI x2))) = 2 * (mx (mx (mx 0 (absI x0)) (absI x1)) (absI x2)) := IntWalk.i64_in _ (by omega)
  have e2 : IntKind.i64.wrap (2 * (mx (mx (mx 0 (absI x0)) (absI x1)) (absI x2)) + 1) = 2 * (mx (mx (mx 0 (absI x0)) (absI x1)) (absI x2)) + 1 := IntWalk.i64_in _ (by omega)
  have e3 : decide (2 * (mx (mx (mx 0 (absI x0)) (absI x1)) (absI x2)) + 1 < absI (d0 - z - (d0 + x0 - y))) = false := by have := S0.out; simp; omega
  go_quiet ((go_at_call 15; first | exact quiet_left (size_any _ _ (by omega) (by omega)) | exact quiet_add_left (size_any _ _ (by omega) (by omega))))
  go_wp2_with (fail)
  clear e0 e1 e2 e3
  rw [rounds_succ]
  go_wp2_with (fail)
  have e0 : IntKind.i64.wrap (d1 - z - (d1 + x1 - y)) = d1 - z - (d1 + x1 - y) := IntWalk.i64_in _ (by omega)
  have e1 : IntKind.i64.wrap (2 * (mx (mx (mx 0 (absI x0)) (absI x1)) (absI x2))) = 2 * (mx (mx (mx 0 (absI x0)) (absI x1)) (absI x2)) := IntWalk.i64_in _ (by omega)
  have e2 : IntKind.i64.wrap (2 * (mx (mx (mx 0 (absI x0)) (absI x1)) (absI x2)) + 1) = 2 * (mx (mx (mx 0 (absI x0)) (absI x1)) (absI x2)) + 1 := IntWalk.i64_in _ (by omega)
  have e3 : decide (2 * (mx (mx (mx 0 (absI x0)) (absI x1)) (absI x2)) + 1 < absI (d1 - z - (d1 + x1 - y))) = false := by have := S1.out; simp; omega
  go_quiet ((go_at_call 15; first | exact quiet_left (size_any _ _ (by omega) (by omega)) | exact quiet_add_left (size_any _ _ (by omega) (by omega))))
  go_wp2_with (fail)
  clear e0 e1 e2 e3
  rw [rounds_succ]
  go_wp2_with (fail)
  have e0 : IntKind.i64.wrap (d2 - z - (d2 + x2 - y)) = d2 - z - (d2 + x2 - y) := IntWalk.i64_in _ (by omega)
  have e1 : IntKind.i64.wrap (2 * (mx (mx (mx 0 (absI x0)) (absI x1)) (absI x2))) = 2 * (mx (mx (mx 0 (absI x0)) (absI x1)) (absI x2)) := IntWalk.i64_in _ (by omega)
  have e2 : IntKind.i64.wrap (2 * (mx (mx (mx 0 (absI x0)) (absI x1)) (absI x2)) + 1) = 2 * (mx (mx (mx 0 (absI x0)) (absI x1)) (absI x2)) + 1 := IntWalk.i64_in _ (by omega)
  have e3 : decide (2 * (mx (mx (mx 0 (absI x0)) (absI x1)) (absI x2)) + 1 < absI (d2 - z - (d2 + x2 - y))) = false := by have := S2.out; simp; omega
  go_quiet ((go_at_call 15; first | exact quiet_left (size_any _ _ (by omega) (by omega)) | exact quiet_add_left (size_any _ _ (by omega) (by omega))))
  go_wp2_with (fail)
  clear e0 e1 e2 e3
  rw [rounds_succ]
  go_wp2_with (fail)
  have e0 : IntKind.i64.wrap (z - (y)) = z - (y) := IntWalk.i64_in _ (by omega)
  have e1 : IntKind.i64.wrap (2 * (mx (mx (mx 0 (absI x0)) (absI x1)) (absI x2))) = 2 * (mx (mx (mx 0 (absI x0)) (absI x1)) (absI x2)) := IntWalk.i64_in _ (by omega)
  have e2 : IntKind.i64.wrap (2 * (mx (mx (mx 0 (absI x0)) (absI x1)) (absI x2)) + 1) = 2 * (mx (mx (mx 0 (absI x0)) (absI x1)) (absI x2)) + 1 := IntWalk.i64_in _ (by omega)
  have e3 : decide (2 * (mx (mx (mx 0 (absI x0)) (absI x1)) (absI x2)) + 1 < absI (z - (y))) = false := by have := S3.out; simp; omega
  go_quiet ((go_at_call 15; first | exact quiet_left (size_any _ _ (by omega) (by omega)) | exact quiet_add_left (size_any _ _ (by omega) (by omega))))
  go_wp2_with (fail)
  clear e0 e1 e2 e3
  rw [rounds_succ]
  go_wp2_with (fail)
  refine (AW.out _).mono ?_
  rintro e w9 ⟨rfl, hb9⟩
  go_wp2_with (fail)
  go_ret
  exact ⟨rfl, bl_step (below_drewN (bl_alloc (bl_go (bl_alloc (bl_go (Below.drew (Below.drew (Below.drew (bl_alloc (bl_go (bl_alloc (bl_alloc (Below.refl _ _) _) _) B1.out (by omega)) _)))) B2.out (by omega)) _) B3.out (by omega)) _) _) hb9⟩
theorem WheelsSteady_walk (a0_0 : Int) (a0_1 : Int) (a0_2 : Int) (a1_0 : Int) (a1_1 : Int) (a1_2 : Int) (a2 : Int) (w : World) (w0_0 : (Lit.int .i64 a0_0).wf = true) (w0_1 : (Lit.int .i64 a0_1).wf = true) (w0_2 : (Lit.int .i64 a0_2).wf = true) (w1_0 : (Lit.int .i64 a1_0).wf = true) (w1_1 : (Lit.int .i64 a1_1).wf = true) (w1_2 : (Lit.int .i64 a1_2).wf = true) (w2 : (Lit.int .i64 a2).wf = true) :
    Calls Try.prog 5 #[.agg #[.int .i64 a0_0, .int .i64 a0_1, .int .i64 a0_2], .agg #[.int .i64 a1_0, .int .i64 a1_1, .int .i64 a1_2], .int .i64 a2] w fun e w' => e = .returned (.bool true) ∧ Below w.heap.size w w' := by
  by_cases h : a2 < -1 ∨ 3 < a2 ∨ vld a0_0 a0_1 a0_2 = false
  · exact steady_out1 _ _ _ _ _ _ _ w h
  · have h3 : vld a0_0 a0_1 a0_2 = true := by
      cases hv : vld a0_0 a0_1 a0_2
      · exact (h (Or.inr (Or.inr hv))).elim
      · rfl
    by_cases g : a1_0 < -1073741824 ∨ 1073741824 < a1_0 ∨ a0_0 < -274877906944 ∨ 274877906944 < a0_0 ∨ a1_1 < -1073741824 ∨ 1073741824 < a1_1 ∨ a0_1 < -274877906944 ∨ 274877906944 < a0_1 ∨ a1_2 < -1073741824 ∨ 1073741824 < a1_2 ∨ a0_2 < -274877906944 ∨ 274877906944 < a0_2
    · exact steady_out2 _ _ _ _ _ _ _ w (by omega) (by omega) h3 g
    · exact steady_in _ _ _ _ _ _ _ w (by omega) (by omega) h3 (by omega) (by omega) (by omega) (by omega) (by omega) (by omega) (by omega) (by omega) (by omega) (by omega) (by omega) (by omega)
end Go.Proofs.Ytcmmjikkoebboaa

