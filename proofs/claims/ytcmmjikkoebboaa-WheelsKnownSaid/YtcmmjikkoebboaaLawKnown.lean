/-
  The walk of the law WheelsKnown. Conditions: none.
-/
import Derived.Test.YtcmmjikkoebboaaAwake
namespace Go.Proofs.Ytcmmjikkoebboaa
open Go.RowKit Kit
set_option linter.unusedVariables false
theorem bl_go {a b c : World} {B : Nat} (g : Below a.heap.size a b) (h : Below B b c) (hB : a.heap.size ≤ B) : Below a.heap.size a c := g.trans (h.mono hB)
set_option maxHeartbeats 6400000 in
theorem WheelsKnown_walk (w : World) : Calls Try.prog 9 #[] w fun e w' => e = .returned (.bool true) ∧ Below w.heap.size w w' := by
  have hv1 : allocV 10 (-4) 6 3 = .tuple #[.agg #[.int .i64 10, .int .i64 (-4), .int .i64 6, .int .i64 0], .int .i64 0] := by kernel_rfl
  have hv2 : allocV 10 (-4) 6 0 = .tuple #[.agg #[.int .i64 0, .int .i64 (-14), .int .i64 (-4), .int .i64 10], .int .i64 0] := by kernel_rfl
  have V1 := Lib.hid hv1; have V2 := Lib.hid hv2; clear hv1 hv2
  go_enter Try.func9, Try.ntmps9
  go_wp2_with (fail)
  refine (alloc_any _ _ _ _ _).mono ?_
  rw [V1.out]
  rintro e w1 ⟨rfl, hb1⟩
  obtain ⟨hc, hf⟩ := bcell hb1
  have hs1 := hb1.size
  try simp only [World.size_alloc] at hs1 hc hf hb1
  have B1 := Lib.hid hb1; clear hb1
  have hg : w.heap.size ≤ w1.heap.size := by omega
  clear hc hf
  go_wp2_with (fail)
  refine (alloc_any _ _ _ _ _).mono ?_
  rw [V2.out]
  rintro e w2 ⟨rfl, hb2⟩
  obtain ⟨hc, hf⟩ := bcell hb2
  have hs2 := hb2.size
  try simp only [World.size_alloc] at hs2 hc hf hb2
  have B2 := Lib.hid hb2; clear hb2
  have x1_0 : w2.cell? ⟨w1.heap.size, 0, none⟩ = some (.int .i64 10) := by rw [hc _ _ (by omega)]; go_simp
  have x1_1 : w2.cell? ⟨w1.heap.size, 1, none⟩ = some (.int .i64 (-4)) := by rw [hc _ _ (by omega)]; go_simp
  have x1_2 : w2.cell? ⟨w1.heap.size, 2, none⟩ = some (.int .i64 6) := by rw [hc _ _ (by omega)]; go_simp
  have x1_3 : w2.cell? ⟨w1.heap.size, 3, none⟩ = some (.int .i64 0) := by rw [hc _ _ (by omega)]; go_simp
  have l1 : w1.heap.size < w2.heap.size := by omega
  replace hg : w.heap.size ≤ w2.heap.size := by omega
  clear hc hf
  go_wp2_with (fail)
  refine (new_ok (s0 := 0) (s1 := 0) (s2 := 0) (s3 := 0) (f := -1) (by decide) _).mono ?_
  rintro e w3 ⟨rfl, ho3, hz3, hb3⟩
  obtain ⟨hc, hf⟩ := bcell hb3
  have hs3 := hb3.size
  try simp only [World.size_alloc] at hs3 hc hf hb3 ho3 hz3
  have B3 := Lib.hid hb3; clear hb3
  have O3 := Lib.hid ho3; clear ho3
  replace x1_0 : w3.cell? ⟨w1.heap.size, 0, none⟩ = some (.int .i64 10) := by rw [hc _ _ (by omega)]; go_simp
  replace x1_1 : w3.cell? ⟨w1.heap.size, 1, none⟩ = some (.int .i64 (-4)) := by rw [hc _ _ (by omega)]; go_simp
  replace x1_2 : w3.cell? ⟨w1.heap.size, 2, none⟩ = some (.int .i64 6) := by rw [hc _ _ (by omega)]; go_simp
  replace x1_3 : w3.cell? ⟨w1.heap.size, 3, none⟩ = some (.int .i64 0) := by rw [hc _ _ (by omega)]; go_simp
  replace l1 : w1.heap.size < w3.heap.size := by omega
  have x2_0 : w3.cell? ⟨w2.heap.size, 0, none⟩ = some (.int .i64 0) := by rw [hc _ _ (by omega)]; go_simp
  have x2_1 : w3.cell? ⟨w2.heap.size, 1, none⟩ = some (.int .i64 (-14)) := by rw [hc _ _ (by omega)]; go_simp
  have x2_2 : w3.cell? ⟨w2.heap.size, 2, none⟩ = some (.int .i64 (-4)) := by rw [hc _ _ (by omega)]; go_simp
  have x2_3 : w3.cell? ⟨w2.heap.size, 3, none⟩ = some (.int .i64 10) := by rw [hc _ _ (by omega)]; go_simp
  have l2 : w2.heap.size < w3.heap.size := by omega
  replace hg : w.heap.size ≤ w3.heap.size := by omega
  have HS := O3; clear O3
  have lS : w2.heap.size + 1 + 1 < w3.heap.size := by omega
  have bS : w.heap.size ≤ w2.heap.size + 1 + 1 := by omega
  clear hc hf
  go_wp2_with (fail)
  refine (new_ok (s0 := 2048) (s1 := -1023) (s2 := 0) (s3 := 4) (f := -1) (by decide) _).mono ?_
  rintro e w4 ⟨rfl, ho4, hz4, hb4⟩
  obtain ⟨hc, hf⟩ := bcell hb4
  have hs4 := hb4.size
  try simp only [World.size_alloc] at hs4 hc hf hb4 ho4 hz4
  have B4 := Lib.hid hb4; clear hb4
  have O4 := Lib.hid ho4; clear ho4
  replace x1_0 : w4.cell? ⟨w1.heap.size, 0, none⟩ = some (.int .i64 10) := by rw [hc _ _ (by omega)]; go_simp
  replace x1_1 : w4.cell? ⟨w1.heap.size, 1, none⟩ = some (.int .i64 (-4)) := by rw [hc _ _ (by omega)]; go_simp
  replace x1_2 : w4.cell? ⟨w1.heap.size, 2, none⟩ = some (.int .i64 6) := by rw [hc _ _ (by omega)]; go_simp
  replace x1_3 : w4.cell? ⟨w1.heap.size, 3, none⟩ = some (.int .i64 0) := by rw [hc _ _ (by omega)]; go_simp
  replace l1 : w1.heap.size < w4.heap.size := by omega
  replace x2_0 : w4.cell? ⟨w2.heap.size, 0, none⟩ = some (.int .i64 0) := by rw [hc _ _ (by omega)]; go_simp
  replace x2_1 : w4.cell? ⟨w2.heap.size, 1, none⟩ = some (.int .i64 (-14)) := by rw [hc _ _ (by omega)]; go_simp
  replace x2_2 : w4.cell? ⟨w2.heap.size, 2, none⟩ = some (.int .i64 (-4)) := by rw [hc _ _ (by omega)]; go_simp
  replace x2_3 : w4.cell? ⟨w2.heap.size, 3, none⟩ = some (.int .i64 10) := by rw [hc _ _ (by omega)]; go_simp
  replace l2 : w2.heap.size < w4.heap.size := by omega
  replace hg : w.heap.size ≤ w4.heap.size := by omega
  have P := Lib.hid (below_keeps B4.out HS.out (by omega)); clear HS; have HS := P; clear P
  replace lS : w2.heap.size + 1 + 1 < w4.heap.size := by omega
  have HU := O4; clear O4
  have lU : w3.heap.size + 1 < w4.heap.size := by omega
  have bU : w.heap.size ≤ w3.heap.size + 1 := by omega
  clear hc hf
  go_wp2_with (fail)
  refine (new_bad (s0 := 0) (s1 := 0) (s2 := 1) (s3 := 0) (f := 2) (by decide) _).mono ?_
  rintro e w5 ⟨rfl, hb5⟩
  obtain ⟨hc, hf⟩ := bcell hb5
  have hs5 := hb5.size
  try simp only [World.size_alloc] at hs5 hc hf hb5
  have B5 := Lib.hid hb5; clear hb5
  replace x1_0 : w5.cell? ⟨w1.heap.size, 0, none⟩ = some (.int .i64 10) := by rw [hc _ _ (by omega)]; go_simp
  replace x1_1 : w5.cell? ⟨w1.heap.size, 1, none⟩ = some (.int .i64 (-4)) := by rw [hc _ _ (by omega)]; go_simp
  replace x1_2 : w5.cell? ⟨w1.heap.size, 2, none⟩ = some (.int .i64 6) := by rw [hc _ _ (by omega)]; go_simp
  replace x1_3 : w5.cell? ⟨w1.heap.size, 3, none⟩ = some (.int .i64 0) := by rw [hc _ _ (by omega)]; go_simp
  replace l1 : w1.heap.size < w5.heap.size := by omega
  replace x2_0 : w5.cell? ⟨w2.heap.size, 0, none⟩ = some (.int .i64 0) := by rw [hc _ _ (by omega)]; go_simp
  replace x2_1 : w5.cell? ⟨w2.heap.size, 1, none⟩ = some (.int .i64 (-14)) := by rw [hc _ _ (by omega)]; go_simp
  replace x2_2 : w5.cell? ⟨w2.heap.size, 2, none⟩ = some (.int .i64 (-4)) := by rw [hc _ _ (by omega)]; go_simp
  replace x2_3 : w5.cell? ⟨w2.heap.size, 3, none⟩ = some (.int .i64 10) := by rw [hc _ _ (by omega)]; go_simp
  replace l2 : w2.heap.size < w5.heap.size := by omega
  replace hg : w.heap.size ≤ w5.heap.size := by omega
  have P := Lib.hid (below_keeps B5.out HS.out (by omega)); clear HS; have HS := P; clear P
  replace lS : w2.heap.size + 1 + 1 < w5.heap.size := by omega
  have P := Lib.hid (below_keeps B5.out HU.out (by omega)); clear HU; have HU := P; clear P
  replace lU : w3.heap.size + 1 < w5.heap.size := by omega
  clear hc hf
  go_wp2_with (fail)
  refine (new_bad (s0 := 16777217) (s1 := 0) (s2 := 0) (s3 := 0) (f := -1) (by decide) _).mono ?_
  rintro e w6 ⟨rfl, hb6⟩
  obtain ⟨hc, hf⟩ := bcell hb6
  have hs6 := hb6.size
  try simp only [World.size_alloc] at hs6 hc hf hb6
  have B6 := Lib.hid hb6; clear hb6
  replace x1_0 : w6.cell? ⟨w1.heap.size, 0, none⟩ = some (.int .i64 10) := by rw [hc _ _ (by omega)]; go_simp
  replace x1_1 : w6.cell? ⟨w1.heap.size, 1, none⟩ = some (.int .i64 (-4)) := by rw [hc _ _ (by omega)]; go_simp
  replace x1_2 : w6.cell? ⟨w1.heap.size, 2, none⟩ = some (.int .i64 6) := by rw [hc _ _ (by omega)]; go_simp
  replace x1_3 : w6.cell? ⟨w1.heap.size, 3, none⟩ = some (.int .i64 0) := by rw [hc _ _ (by omega)]; go_simp
  replace l1 : w1.heap.size < w6.heap.size := by omega
  replace x2_0 : w6.cell? ⟨w2.heap.size, 0, none⟩ = some (.int .i64 0) := by rw [hc _ _ (by omega)]; go_simp
  replace x2_1 : w6.cell? ⟨w2.heap.size, 1, none⟩ = some (.int .i64 (-14)) := by rw [hc _ _ (by omega)]; go_simp
  replace x2_2 : w6.cell? ⟨w2.heap.size, 2, none⟩ = some (.int .i64 (-4)) := by rw [hc _ _ (by omega)]; go_simp
  replace x2_3 : w6.cell? ⟨w2.heap.size, 3, none⟩ = some (.int .i64 10) := by rw [hc _ _ (by omega)]; go_simp
  replace l2 : w2.heap.size < w6.heap.size := by omega
  replace hg : w.heap.size ≤ w6.heap.size := by omega
  have P := Lib.hid (below_keeps B6.out HS.out (by omega)); clear HS; have HS := P; clear P
  replace lS : w2.heap.size + 1 + 1 < w6.heap.size := by omega
  have P := Lib.hid (below_keeps B6.out HU.out (by omega)); clear HU; have HU := P; clear P
  replace lU : w3.heap.size + 1 < w6.heap.size := by omega
  clear hc hf
  have t1 : (if (-1 : Int) = 0 then (0 : Int) else stepI 0 5) = 5 ∧ (if (-1 : Int) = 1 then (0 : Int) else stepI 0 (-5)) = -5 ∧ (if (-1 : Int) = 2 then (0 : Int) else stepI 0 2097152) = 1048576 ∧ (if (-1 : Int) = 3 then (0 : Int) else stepI 0 0) = 0 := by decide
  have T1 := Lib.hid t1; clear t1
  go_wp2_with (fail)
  refine (step_any _ 0 0 0 0 (-1) 5 (-5) 2097152 0 _ (by decide) HS.out).mono ?_
  rw [T1.out.1, T1.out.2.1, T1.out.2.2.1, T1.out.2.2.2]
  rintro e w7 ⟨rfl, ho7, hb7⟩
  obtain ⟨hc, hf⟩ := mcell hb7
  have hs7 := hb7.size
  try simp only [World.size_alloc] at hs7 hc hf hb7 ho7
  have B7 := Lib.hid hb7; clear hb7
  have O7 := Lib.hid ho7; clear ho7
  replace x1_0 : w7.cell? ⟨w1.heap.size, 0, none⟩ = some (.int .i64 10) := by rw [hc _ _ (by omega) (by omega)]; go_simp
  replace x1_1 : w7.cell? ⟨w1.heap.size, 1, none⟩ = some (.int .i64 (-4)) := by rw [hc _ _ (by omega) (by omega)]; go_simp
  replace x1_2 : w7.cell? ⟨w1.heap.size, 2, none⟩ = some (.int .i64 6) := by rw [hc _ _ (by omega) (by omega)]; go_simp
  replace x1_3 : w7.cell? ⟨w1.heap.size, 3, none⟩ = some (.int .i64 0) := by rw [hc _ _ (by omega) (by omega)]; go_simp
  replace l1 : w1.heap.size < w7.heap.size := by omega
  replace x2_0 : w7.cell? ⟨w2.heap.size, 0, none⟩ = some (.int .i64 0) := by rw [hc _ _ (by omega) (by omega)]; go_simp
  replace x2_1 : w7.cell? ⟨w2.heap.size, 1, none⟩ = some (.int .i64 (-14)) := by rw [hc _ _ (by omega) (by omega)]; go_simp
  replace x2_2 : w7.cell? ⟨w2.heap.size, 2, none⟩ = some (.int .i64 (-4)) := by rw [hc _ _ (by omega) (by omega)]; go_simp
  replace x2_3 : w7.cell? ⟨w2.heap.size, 3, none⟩ = some (.int .i64 10) := by rw [hc _ _ (by omega) (by omega)]; go_simp
  replace l2 : w2.heap.size < w7.heap.size := by omega
  replace hg : w.heap.size ≤ w7.heap.size := by omega
  have P := Lib.hid (B7.out.keeps HU.out (by omega)); clear HU; have HU := P; clear P
  replace lU : w3.heap.size + 1 < w7.heap.size := by omega
  clear HS; have HS := O7; clear O7
  replace lS : w2.heap.size + 1 + 1 < w7.heap.size := by omega
  clear hc hf
  have t2 : (if (-1 : Int) = 0 then (0 : Int) else cmdI 2048 2048) = 2 ∧ (if (-1 : Int) = 1 then (0 : Int) else cmdI (-1023) 0) = 1023 ∧ (if (-1 : Int) = 2 then (0 : Int) else cmdI 0 0) = 0 ∧ (if (-1 : Int) = 3 then (0 : Int) else cmdI 4 0) = -4 := by decide
  have T2 := Lib.hid t2; clear t2
  go_wp2_with (fail)
  refine (command_any _ 2048 (-1023) 0 4 (-1) 2048 0 0 0 _ (by decide) HU.out).mono ?_
  rw [T2.out.1, T2.out.2.1, T2.out.2.2.1, T2.out.2.2.2]; unfold four
  rintro e w8 ⟨rfl, hb8⟩
  obtain ⟨hc, hf⟩ := bcell hb8
  have hs8 := hb8.size
  try simp only [World.size_alloc] at hs8 hc hf hb8
  have B8 := Lib.hid hb8; clear hb8
  replace x1_0 : w8.cell? ⟨w1.heap.size, 0, none⟩ = some (.int .i64 10) := by rw [hc _ _ (by omega)]; go_simp
  replace x1_1 : w8.cell? ⟨w1.heap.size, 1, none⟩ = some (.int .i64 (-4)) := by rw [hc _ _ (by omega)]; go_simp
  replace x1_2 : w8.cell? ⟨w1.heap.size, 2, none⟩ = some (.int .i64 6) := by rw [hc _ _ (by omega)]; go_simp
  replace x1_3 : w8.cell? ⟨w1.heap.size, 3, none⟩ = some (.int .i64 0) := by rw [hc _ _ (by omega)]; go_simp
  replace l1 : w1.heap.size < w8.heap.size := by omega
  replace x2_0 : w8.cell? ⟨w2.heap.size, 0, none⟩ = some (.int .i64 0) := by rw [hc _ _ (by omega)]; go_simp
  replace x2_1 : w8.cell? ⟨w2.heap.size, 1, none⟩ = some (.int .i64 (-14)) := by rw [hc _ _ (by omega)]; go_simp
  replace x2_2 : w8.cell? ⟨w2.heap.size, 2, none⟩ = some (.int .i64 (-4)) := by rw [hc _ _ (by omega)]; go_simp
  replace x2_3 : w8.cell? ⟨w2.heap.size, 3, none⟩ = some (.int .i64 10) := by rw [hc _ _ (by omega)]; go_simp
  replace l2 : w2.heap.size < w8.heap.size := by omega
  replace hg : w.heap.size ≤ w8.heap.size := by omega
  have P := Lib.hid (below_keeps B8.out HS.out (by omega)); clear HS; have HS := P; clear P
  replace lS : w2.heap.size + 1 + 1 < w8.heap.size := by omega
  have P := Lib.hid (below_keeps B8.out HU.out (by omega)); clear HU; have HU := P; clear P
  replace lU : w3.heap.size + 1 < w8.heap.size := by omega
  clear hc hf
  have t3 : (if (-1 : Int) = 0 then (2048 : Int) else stepI 2048 2) = 2048 ∧ (if (-1 : Int) = 1 then (-1023 : Int) else stepI (-1023) 1023) = 0 ∧ (if (-1 : Int) = 2 then (0 : Int) else stepI 0 0) = 0 ∧ (if (-1 : Int) = 3 then (4 : Int) else stepI 4 (-4)) = 0 := by decide
  have T3 := Lib.hid t3; clear t3
  go_wp2_with (fail)
  refine (step_any _ 2048 (-1023) 0 4 (-1) 2 1023 0 (-4) _ (by decide) (hp_old HU.out _)).mono ?_
  rw [T3.out.1, T3.out.2.1, T3.out.2.2.1, T3.out.2.2.2]
  rintro e w9 ⟨rfl, ho9, hb9⟩
  obtain ⟨hc, hf⟩ := mcell hb9
  have hs9 := hb9.size
  try simp only [World.size_alloc] at hs9 hc hf hb9 ho9
  have B9 := Lib.hid hb9; clear hb9
  have O9 := Lib.hid ho9; clear ho9
  replace x1_0 : w9.cell? ⟨w1.heap.size, 0, none⟩ = some (.int .i64 10) := by rw [hc _ _ (by omega) (by omega)]; go_simp
  replace x1_1 : w9.cell? ⟨w1.heap.size, 1, none⟩ = some (.int .i64 (-4)) := by rw [hc _ _ (by omega) (by omega)]; go_simp
  replace x1_2 : w9.cell? ⟨w1.heap.size, 2, none⟩ = some (.int .i64 6) := by rw [hc _ _ (by omega) (by omega)]; go_simp
  replace x1_3 : w9.cell? ⟨w1.heap.size, 3, none⟩ = some (.int .i64 0) := by rw [hc _ _ (by omega) (by omega)]; go_simp
  replace l1 : w1.heap.size < w9.heap.size := by omega
  replace x2_0 : w9.cell? ⟨w2.heap.size, 0, none⟩ = some (.int .i64 0) := by rw [hc _ _ (by omega) (by omega)]; go_simp
  replace x2_1 : w9.cell? ⟨w2.heap.size, 1, none⟩ = some (.int .i64 (-14)) := by rw [hc _ _ (by omega) (by omega)]; go_simp
  replace x2_2 : w9.cell? ⟨w2.heap.size, 2, none⟩ = some (.int .i64 (-4)) := by rw [hc _ _ (by omega) (by omega)]; go_simp
  replace x2_3 : w9.cell? ⟨w2.heap.size, 3, none⟩ = some (.int .i64 10) := by rw [hc _ _ (by omega) (by omega)]; go_simp
  replace l2 : w2.heap.size < w9.heap.size := by omega
  have x3_0 : w9.cell? ⟨w8.heap.size, 0, none⟩ = some (.int .i64 2) := by rw [hc _ _ (by omega) (by omega)]; go_simp
  have x3_1 : w9.cell? ⟨w8.heap.size, 1, none⟩ = some (.int .i64 1023) := by rw [hc _ _ (by omega) (by omega)]; go_simp
  have x3_2 : w9.cell? ⟨w8.heap.size, 2, none⟩ = some (.int .i64 0) := by rw [hc _ _ (by omega) (by omega)]; go_simp
  have x3_3 : w9.cell? ⟨w8.heap.size, 3, none⟩ = some (.int .i64 (-4)) := by rw [hc _ _ (by omega) (by omega)]; go_simp
  have l3 : w8.heap.size < w9.heap.size := by omega
  replace hg : w.heap.size ≤ w9.heap.size := by omega
  have P := Lib.hid (B9.out.keeps (hp_old HS.out _) (by omega)); clear HS; have HS := P; clear P
  replace lS : w2.heap.size + 1 + 1 < w9.heap.size := by omega
  clear HU; have HU := O9; clear O9
  replace lU : w3.heap.size + 1 < w9.heap.size := by omega
  clear hc hf
  go_wp2_with (fail)
  refine (speeds_any _ _ _ _ _ _ _ HU.out).mono ?_
  unfold four
  rintro e w10 ⟨rfl, hb10⟩
  obtain ⟨hc, hf⟩ := bcell hb10
  have hs10 := hb10.size
  try simp only [World.size_alloc] at hs10 hc hf hb10
  have B10 := Lib.hid hb10; clear hb10
  replace x1_0 : w10.cell? ⟨w1.heap.size, 0, none⟩ = some (.int .i64 10) := by rw [hc _ _ (by omega)]; go_simp
  replace x1_1 : w10.cell? ⟨w1.heap.size, 1, none⟩ = some (.int .i64 (-4)) := by rw [hc _ _ (by omega)]; go_simp
  replace x1_2 : w10.cell? ⟨w1.heap.size, 2, none⟩ = some (.int .i64 6) := by rw [hc _ _ (by omega)]; go_simp
  replace x1_3 : w10.cell? ⟨w1.heap.size, 3, none⟩ = some (.int .i64 0) := by rw [hc _ _ (by omega)]; go_simp
  replace l1 : w1.heap.size < w10.heap.size := by omega
  replace x2_0 : w10.cell? ⟨w2.heap.size, 0, none⟩ = some (.int .i64 0) := by rw [hc _ _ (by omega)]; go_simp
  replace x2_1 : w10.cell? ⟨w2.heap.size, 1, none⟩ = some (.int .i64 (-14)) := by rw [hc _ _ (by omega)]; go_simp
  replace x2_2 : w10.cell? ⟨w2.heap.size, 2, none⟩ = some (.int .i64 (-4)) := by rw [hc _ _ (by omega)]; go_simp
  replace x2_3 : w10.cell? ⟨w2.heap.size, 3, none⟩ = some (.int .i64 10) := by rw [hc _ _ (by omega)]; go_simp
  replace l2 : w2.heap.size < w10.heap.size := by omega
  replace x3_0 : w10.cell? ⟨w8.heap.size, 0, none⟩ = some (.int .i64 2) := by rw [hc _ _ (by omega)]; go_simp
  replace x3_1 : w10.cell? ⟨w8.heap.size, 1, none⟩ = some (.int .i64 1023) := by rw [hc _ _ (by omega)]; go_simp
  replace x3_2 : w10.cell? ⟨w8.heap.size, 2, none⟩ = some (.int .i64 0) := by rw [hc _ _ (by omega)]; go_simp
  replace x3_3 : w10.cell? ⟨w8.heap.size, 3, none⟩ = some (.int .i64 (-4)) := by rw [hc _ _ (by omega)]; go_simp
  replace l3 : w8.heap.size < w10.heap.size := by omega
  replace hg : w.heap.size ≤ w10.heap.size := by omega
  have P := Lib.hid (below_keeps B10.out HS.out (by omega)); clear HS; have HS := P; clear P
  replace lS : w2.heap.size + 1 + 1 < w10.heap.size := by omega
  have P := Lib.hid (below_keeps B10.out HU.out (by omega)); clear HU; have HU := P; clear P
  replace lU : w3.heap.size + 1 < w10.heap.size := by omega
  clear hc hf
  go_wp2_with (fail)
  refine (speeds_any _ _ _ _ _ _ _ HS.out).mono ?_
  unfold four
  rintro e w11 ⟨rfl, hb11⟩
  obtain ⟨hc, hf⟩ := bcell hb11
  have hs11 := hb11.size
  try simp only [World.size_alloc] at hs11 hc hf hb11
  have B11 := Lib.hid hb11; clear hb11
  replace x1_0 : w11.cell? ⟨w1.heap.size, 0, none⟩ = some (.int .i64 10) := by rw [hc _ _ (by omega)]; go_simp
  replace x1_1 : w11.cell? ⟨w1.heap.size, 1, none⟩ = some (.int .i64 (-4)) := by rw [hc _ _ (by omega)]; go_simp
  replace x1_2 : w11.cell? ⟨w1.heap.size, 2, none⟩ = some (.int .i64 6) := by rw [hc _ _ (by omega)]; go_simp
  replace x1_3 : w11.cell? ⟨w1.heap.size, 3, none⟩ = some (.int .i64 0) := by rw [hc _ _ (by omega)]; go_simp
  replace l1 : w1.heap.size < w11.heap.size := by omega
  replace x2_0 : w11.cell? ⟨w2.heap.size, 0, none⟩ = some (.int .i64 0) := by rw [hc _ _ (by omega)]; go_simp
  replace x2_1 : w11.cell? ⟨w2.heap.size, 1, none⟩ = some (.int .i64 (-14)) := by rw [hc _ _ (by omega)]; go_simp
  replace x2_2 : w11.cell? ⟨w2.heap.size, 2, none⟩ = some (.int .i64 (-4)) := by rw [hc _ _ (by omega)]; go_simp
  replace x2_3 : w11.cell? ⟨w2.heap.size, 3, none⟩ = some (.int .i64 10) := by rw [hc _ _ (by omega)]; go_simp
  replace l2 : w2.heap.size < w11.heap.size := by omega
  replace x3_0 : w11.cell? ⟨w8.heap.size, 0, none⟩ = some (.int .i64 2) := by rw [hc _ _ (by omega)]; go_simp
  replace x3_1 : w11.cell? ⟨w8.heap.size, 1, none⟩ = some (.int .i64 1023) := by rw [hc _ _ (by omega)]; go_simp
  replace x3_2 : w11.cell? ⟨w8.heap.size, 2, none⟩ = some (.int .i64 0) := by rw [hc _ _ (by omega)]; go_simp
  replace x3_3 : w11.cell? ⟨w8.heap.size, 3, none⟩ = some (.int .i64 (-4)) := by rw [hc _ _ (by omega)]; go_simp
  replace l3 : w8.heap.size < w11.heap.size := by omega
  replace hg : w.heap.size ≤ w11.heap.size := by omega
  have P := Lib.hid (below_keeps B11.out HS.out (by omega)); clear HS; have HS := P; clear P
  replace lS : w2.heap.size + 1 + 1 < w11.heap.size := by omega
  have P := Lib.hid (below_keeps B11.out HU.out (by omega)); clear HU; have HU := P; clear P
  replace lU : w3.heap.size + 1 < w11.heap.size := by omega
  clear hc hf
  go_wp2_with (fail)
  refine (sum_any _ _ _ _ _ _ _ (by decide) HS.out).mono ?_
  rintro e w12 ⟨rfl, hb12⟩
  obtain ⟨hc, hf⟩ := bcell hb12
  have hs12 := hb12.size
  try simp only [World.size_alloc] at hs12 hc hf hb12
  have B12 := Lib.hid hb12; clear hb12
  replace hg : w.heap.size ≤ w12.heap.size := by omega
  have P := Lib.hid (below_keeps B12.out HS.out (by omega)); clear HS; have HS := P; clear P
  replace lS : w2.heap.size + 1 + 1 < w12.heap.size := by omega
  have P := Lib.hid (below_keeps B12.out HU.out (by omega)); clear HU; have HU := P; clear P
  replace lU : w3.heap.size + 1 < w12.heap.size := by omega
  clear hc hf
  go_wp2_with (fail)
  refine (fail_no _ _ _ _ _ _ _ _ HS.out (by decide)).mono ?_
  rintro e _ ⟨rfl, rfl⟩
  go_wp2_with (fail)
  refine (fail_yes _ _ _ _ _ _ _ _ HS.out (by decide)).mono ?_
  rintro e w13 ⟨rfl, ho13, hb13⟩
  obtain ⟨hc, hf⟩ := mcell hb13
  have hs13 := hb13.size
  try simp only [World.size_alloc] at hs13 hc hf hb13 ho13
  have B13 := Lib.hid hb13; clear hb13
  have O13 := Lib.hid ho13; clear ho13
  replace hg : w.heap.size ≤ w13.heap.size := by omega
  have P := Lib.hid (B13.out.keeps HU.out (by omega)); clear HU; have HU := P; clear P
  replace lU : w3.heap.size + 1 < w13.heap.size := by omega
  clear HS; have HS := O13; clear O13
  replace lS : w2.heap.size + 1 + 1 < w13.heap.size := by omega
  clear hc hf
  go_wp2_with (fail)
  refine (failed_any _ _ _ _ _ _ _ HS.out).mono ?_
  rintro e _ ⟨rfl, rfl⟩
  go_wp2_with (fail)
  refine (fail_no _ _ _ _ _ _ _ _ HS.out (by decide)).mono ?_
  rintro e _ ⟨rfl, rfl⟩
  go_wp2_with (fail)
  refine (speeds_any _ _ _ _ _ _ _ HS.out).mono ?_
  unfold four
  rintro e w14 ⟨rfl, hb14⟩
  obtain ⟨hc, hf⟩ := bcell hb14
  have hs14 := hb14.size
  try simp only [World.size_alloc] at hs14 hc hf hb14
  have B14 := Lib.hid hb14; clear hb14
  replace hg : w.heap.size ≤ w14.heap.size := by omega
  have P := Lib.hid (below_keeps B14.out HS.out (by omega)); clear HS; have HS := P; clear P
  replace lS : w2.heap.size + 1 + 1 < w14.heap.size := by omega
  have P := Lib.hid (below_keeps B14.out HU.out (by omega)); clear HU; have HU := P; clear P
  replace lU : w3.heap.size + 1 < w14.heap.size := by omega
  clear hc hf
  go_wp2_with (fail)
  refine (awake_any _).mono ?_
  rintro e w15 ⟨rfl, hb15⟩
  obtain ⟨hc, hf⟩ := bcell hb15
  have hs15 := hb15.size
  try simp only [World.size_alloc] at hs15 hc hf hb15
  have B15 := Lib.hid hb15; clear hb15
  replace hg : w.heap.size ≤ w15.heap.size := by omega
  have P := Lib.hid (below_keeps B15.out HS.out (by omega)); clear HS; have HS := P; clear P
  replace lS : w2.heap.size + 1 + 1 < w15.heap.size := by omega
  have P := Lib.hid (below_keeps B15.out HU.out (by omega)); clear HU; have HU := P; clear P
  replace lU : w3.heap.size + 1 < w15.heap.size := by omega
  clear hc hf
  go_wp2_with (fail)
  go_ret
  refine ⟨rfl, ?_⟩
  exact (bl_go (bl_go (bl_mod (bl_go (bl_go (bl_go (bl_mod (bl_alloc (bl_go (bl_mod (bl_go (bl_go (bl_go (bl_go (bl_alloc (bl_go (bl_alloc (bl_go (Below.refl _ _) B1.out (by omega)) _) B2.out (by omega)) _) B3.out (by omega)) B4.out (by omega)) B5.out (by omega)) B6.out (by omega)) B7.out (by omega)) B8.out (by omega)) _) B9.out (by omega)) B10.out (by omega)) B11.out (by omega)) B12.out (by omega)) B13.out (by omega)) B14.out (by omega)) B15.out (by omega))
end Go.Proofs.Ytcmmjikkoebboaa
