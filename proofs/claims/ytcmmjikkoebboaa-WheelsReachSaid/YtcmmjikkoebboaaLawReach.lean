/-
  The walk of the law WheelsReach. Conditions: none.
-/
import Derived.Test.YtcmmjikkoebboaaAwake
namespace Go.Proofs.Ytcmmjikkoebboaa
open Go.RowKit Kit
set_option linter.unusedVariables false
theorem bl_go {a b c : World} {B : Nat} (g : Below a.heap.size a b) (h : Below B b c) (hB : a.heap.size ≤ B) : Below a.heap.size a c := g.trans (h.mono hB)
theorem absI_bd (a n : Int) (h : -n ≤ a ∧ a ≤ n) : 0 ≤ absI a ∧ absI a ≤ n := by unfold absI; omega
theorem reach_plain {s t : Int} (hs : -16777216 ≤ s ∧ s ≤ 16777216) (ht : -16777216 ≤ t ∧ t ≤ 16777216) :
    (stepI s (cmdI s t) = t ∨ absI (stepI s (cmdI s t) - t) ≤ absI (s - t) - 1032192) ∧ -16777216 ≤ stepI s (cmdI s t) ∧ stepI s (cmdI s t) ≤ 16777216 := by
  have hf := fric_bd hs
  unfold stepI cmdI
  generalize fric s = q at *
  unfold clampI absI
  omega
/-- A target out of range: awake is asked. -/
theorem reach_out (a0_0 : Int) (a0_1 : Int) (a0_2 : Int) (a0_3 : Int) (a1_0 : Int) (a1_1 : Int) (a1_2 : Int) (a1_3 : Int) (a2 : Int) (w : World)
    (h : a1_0 < -16777216 ∨ 16777216 < a1_0 ∨ a1_1 < -16777216 ∨ 16777216 < a1_1 ∨ a1_2 < -16777216 ∨ 16777216 < a1_2 ∨ a1_3 < -16777216 ∨ 16777216 < a1_3) :
    Calls Try.prog 6 #[.agg #[.int .i64 a0_0, .int .i64 a0_1, .int .i64 a0_2, .int .i64 a0_3], .agg #[.int .i64 a1_0, .int .i64 a1_1, .int .i64 a1_2, .int .i64 a1_3], .int .i64 a2] w fun e w' => e = .returned (.bool true) ∧ Below w.heap.size w w' := by
  have H := Lib.hid h; clear h
  go_enter Try.func6, Try.ntmps6
  go_wp2_with (fail)
  refine wp_loop_rounds 5 ?_
  iterate 5
    any_goals (rw [rounds_succ]; go_wp2_with ((with_reducible refine (awake_any _).mono ?_); rintro e w2 ⟨rfl, hb2⟩))
  all_goals first
    | (exfalso; have := H.out; omega)
    | (go_ret; exact ⟨rfl, bl_step (bl_alloc (bl_alloc (Below.refl _ _) _) _) hb2⟩)
set_option maxHeartbeats 1600000 in
theorem reach_bad (s0 s1 s2 s3 t0 t1 t2 t3 f : Int) (w : World) (r0 : -16777216 ≤ t0 ∧ t0 ≤ 16777216) (r1 : -16777216 ≤ t1 ∧ t1 ≤ 16777216) (r2 : -16777216 ≤ t2 ∧ t2 ≤ 16777216) (r3 : -16777216 ≤ t3 ∧ t3 ≤ 16777216) (ok : ¬ okS s0 s1 s2 s3 f) :
    Calls Try.prog 6 #[.agg #[.int .i64 s0, .int .i64 s1, .int .i64 s2, .int .i64 s3], .agg #[.int .i64 t0, .int .i64 t1, .int .i64 t2, .int .i64 t3], .int .i64 f] w fun e w' => e = .returned (.bool true) ∧ Below w.heap.size w w' := by
  have HO := Lib.hid ok; clear ok
  obtain ⟨r00, r01⟩ := r0; obtain ⟨r10, r11⟩ := r1; obtain ⟨r20, r21⟩ := r2; obtain ⟨r30, r31⟩ := r3
  go_enter Try.func6, Try.ntmps6
  go_wp2_with (fail)
  refine wp_loop_rounds 5 ?_
  rw [rounds_succ]
  go_wp2_with (fail)
  rw [rounds_succ]
  go_wp2_with (fail)
  rw [rounds_succ]
  go_wp2_with (fail)
  rw [rounds_succ]
  go_wp2_with (fail)
  rw [rounds_succ]
  go_wp2_with (fail)
  refine (new_bad HO.out _).mono ?_
  rintro e w1 ⟨rfl, hb1⟩
  obtain ⟨hc, hf⟩ := bcell hb1
  have hs1 := hb1.size
  try simp only [World.size_alloc] at hs1 hc hf hb1
  have B1 := Lib.hid hb1; clear hb1
  have x1_0 : w1.cell? ⟨w.heap.size, 0, none⟩ = some (.int .i64 s0) := by rw [hc _ _ (by omega)]; go_simp
  have x1_1 : w1.cell? ⟨w.heap.size, 1, none⟩ = some (.int .i64 s1) := by rw [hc _ _ (by omega)]; go_simp
  have x1_2 : w1.cell? ⟨w.heap.size, 2, none⟩ = some (.int .i64 s2) := by rw [hc _ _ (by omega)]; go_simp
  have x1_3 : w1.cell? ⟨w.heap.size, 3, none⟩ = some (.int .i64 s3) := by rw [hc _ _ (by omega)]; go_simp
  have l1 : w.heap.size < w1.heap.size := by omega
  have x2_0 : w1.cell? ⟨w.heap.size + 1, 0, none⟩ = some (.int .i64 t0) := by rw [hc _ _ (by omega)]; go_simp
  have x2_1 : w1.cell? ⟨w.heap.size + 1, 1, none⟩ = some (.int .i64 t1) := by rw [hc _ _ (by omega)]; go_simp
  have x2_2 : w1.cell? ⟨w.heap.size + 1, 2, none⟩ = some (.int .i64 t2) := by rw [hc _ _ (by omega)]; go_simp
  have x2_3 : w1.cell? ⟨w.heap.size + 1, 3, none⟩ = some (.int .i64 t3) := by rw [hc _ _ (by omega)]; go_simp
  have l2 : w.heap.size + 1 < w1.heap.size := by omega
  have hg : w.heap.size ≤ w1.heap.size := by omega
  clear hc hf
  go_wp2_with (fail)
  refine (awake_any _).mono ?_
  rintro e w2 ⟨rfl, hb2⟩
  obtain ⟨hc, hf⟩ := bcell hb2
  have hs2 := hb2.size
  try simp only [World.size_alloc] at hs2 hc hf hb2
  have B2 := Lib.hid hb2; clear hb2
  replace hg : w.heap.size ≤ w2.heap.size := by omega
  clear hc hf
  go_wp2_with (fail)
  go_ret
  refine ⟨rfl, ?_⟩
  exact (bl_go (bl_go (bl_alloc (bl_alloc (Below.refl _ _) _) _) B1.out (by omega)) B2.out (by omega))
set_option maxHeartbeats 6400000 in
theorem reach_in (s0 s1 s2 s3 t0 t1 t2 t3 f : Int) (w : World) (r0 : -16777216 ≤ t0 ∧ t0 ≤ 16777216) (r1 : -16777216 ≤ t1 ∧ t1 ≤ 16777216) (r2 : -16777216 ≤ t2 ∧ t2 ≤ 16777216) (r3 : -16777216 ≤ t3 ∧ t3 ≤ 16777216) (ok : okS s0 s1 s2 s3 f) :
    Calls Try.prog 6 #[.agg #[.int .i64 s0, .int .i64 s1, .int .i64 s2, .int .i64 s3], .agg #[.int .i64 t0, .int .i64 t1, .int .i64 t2, .int .i64 t3], .int .i64 f] w fun e w' => e = .returned (.bool true) ∧ Below w.heap.size w w' := by
  have HO := Lib.hid ok
  obtain ⟨k0, K0⟩ : ∃ k, Hid (k = if f = 0 then (0 : Int) else cmdI s0 t0) := ⟨_, rfl⟩
  obtain ⟨n0, N0⟩ : ∃ n, Hid (n = if f = 0 then s0 else stepI s0 k0) := ⟨_, rfl⟩
  obtain ⟨A0, P0, m0, M0⟩ : Hid (f = 0 → n0 = 0) ∧ Hid (f ≠ 0 → (n0 = t0 ∨ absI (n0 - t0) ≤ absI (s0 - t0) - 1032192)) ∧ -16777216 ≤ n0 ∧ n0 ≤ 16777216 := by
    have a := reach_plain (s := s0) (t := t0) (by unfold okS at ok; omega) r0
    have b := N0.out
    have c := K0.out
    have o := ok
    by_cases hf : f = 0
    · rw [if_pos hf] at b; unfold okS at o; exact ⟨fun _ => by omega, fun h => (h hf).elim, by omega, by omega⟩
    · rw [if_neg hf] at b c; rw [c] at b; rw [← b] at a; exact ⟨fun h => (hf h).elim, fun _ => a.1, a.2.1, a.2.2⟩
  obtain ⟨k1, K1⟩ : ∃ k, Hid (k = if f = 1 then (0 : Int) else cmdI s1 t1) := ⟨_, rfl⟩
  obtain ⟨n1, N1⟩ : ∃ n, Hid (n = if f = 1 then s1 else stepI s1 k1) := ⟨_, rfl⟩
  obtain ⟨A1, P1, m1, M1⟩ : Hid (f = 1 → n1 = 0) ∧ Hid (f ≠ 1 → (n1 = t1 ∨ absI (n1 - t1) ≤ absI (s1 - t1) - 1032192)) ∧ -16777216 ≤ n1 ∧ n1 ≤ 16777216 := by
    have a := reach_plain (s := s1) (t := t1) (by unfold okS at ok; omega) r1
    have b := N1.out
    have c := K1.out
    have o := ok
    by_cases hf : f = 1
    · rw [if_pos hf] at b; unfold okS at o; exact ⟨fun _ => by omega, fun h => (h hf).elim, by omega, by omega⟩
    · rw [if_neg hf] at b c; rw [c] at b; rw [← b] at a; exact ⟨fun h => (hf h).elim, fun _ => a.1, a.2.1, a.2.2⟩
  obtain ⟨k2, K2⟩ : ∃ k, Hid (k = if f = 2 then (0 : Int) else cmdI s2 t2) := ⟨_, rfl⟩
  obtain ⟨n2, N2⟩ : ∃ n, Hid (n = if f = 2 then s2 else stepI s2 k2) := ⟨_, rfl⟩
  obtain ⟨A2, P2, m2, M2⟩ : Hid (f = 2 → n2 = 0) ∧ Hid (f ≠ 2 → (n2 = t2 ∨ absI (n2 - t2) ≤ absI (s2 - t2) - 1032192)) ∧ -16777216 ≤ n2 ∧ n2 ≤ 16777216 := by
    have a := reach_plain (s := s2) (t := t2) (by unfold okS at ok; omega) r2
    have b := N2.out
    have c := K2.out
    have o := ok
    by_cases hf : f = 2
    · rw [if_pos hf] at b; unfold okS at o; exact ⟨fun _ => by omega, fun h => (h hf).elim, by omega, by omega⟩
    · rw [if_neg hf] at b c; rw [c] at b; rw [← b] at a; exact ⟨fun h => (hf h).elim, fun _ => a.1, a.2.1, a.2.2⟩
  obtain ⟨k3, K3⟩ : ∃ k, Hid (k = if f = 3 then (0 : Int) else cmdI s3 t3) := ⟨_, rfl⟩
  obtain ⟨n3, N3⟩ : ∃ n, Hid (n = if f = 3 then s3 else stepI s3 k3) := ⟨_, rfl⟩
  obtain ⟨A3, P3, m3, M3⟩ : Hid (f = 3 → n3 = 0) ∧ Hid (f ≠ 3 → (n3 = t3 ∨ absI (n3 - t3) ≤ absI (s3 - t3) - 1032192)) ∧ -16777216 ≤ n3 ∧ n3 ≤ 16777216 := by
    have a := reach_plain (s := s3) (t := t3) (by unfold okS at ok; omega) r3
    have b := N3.out
    have c := K3.out
    have o := ok
    by_cases hf : f = 3
    · rw [if_pos hf] at b; unfold okS at o; exact ⟨fun _ => by omega, fun h => (h hf).elim, by omega, by omega⟩
    · rw [if_neg hf] at b c; rw [c] at b; rw [← b] at a; exact ⟨fun h => (hf h).elim, fun _ => a.1, a.2.1, a.2.2⟩
  obtain ⟨c1, c2, c3, c4, c5, c6, c7, c8⟩ := okS_bd ok
  clear ok
  obtain ⟨r00, r01⟩ := r0; obtain ⟨r10, r11⟩ := r1; obtain ⟨r20, r21⟩ := r2; obtain ⟨r30, r31⟩ := r3
  go_enter Try.func6, Try.ntmps6
  go_wp2_with (fail)
  refine wp_loop_rounds 5 ?_
  rw [rounds_succ]
  go_wp2_with (fail)
  rw [rounds_succ]
  go_wp2_with (fail)
  rw [rounds_succ]
  go_wp2_with (fail)
  rw [rounds_succ]
  go_wp2_with (fail)
  rw [rounds_succ]
  go_wp2_with (fail)
  refine (new_ok HO.out _).mono ?_
  rintro e w1 ⟨rfl, ho1, hz1, hb1⟩
  obtain ⟨hc, hf⟩ := bcell hb1
  have hs1 := hb1.size
  try simp only [World.size_alloc] at hs1 hc hf hb1 ho1 hz1
  have B1 := Lib.hid hb1; clear hb1
  have O1 := Lib.hid ho1; clear ho1
  have x1_0 : w1.cell? ⟨w.heap.size, 0, none⟩ = some (.int .i64 s0) := by rw [hc _ _ (by omega)]; go_simp
  have x1_1 : w1.cell? ⟨w.heap.size, 1, none⟩ = some (.int .i64 s1) := by rw [hc _ _ (by omega)]; go_simp
  have x1_2 : w1.cell? ⟨w.heap.size, 2, none⟩ = some (.int .i64 s2) := by rw [hc _ _ (by omega)]; go_simp
  have x1_3 : w1.cell? ⟨w.heap.size, 3, none⟩ = some (.int .i64 s3) := by rw [hc _ _ (by omega)]; go_simp
  have l1 : w.heap.size < w1.heap.size := by omega
  have x2_0 : w1.cell? ⟨w.heap.size + 1, 0, none⟩ = some (.int .i64 t0) := by rw [hc _ _ (by omega)]; go_simp
  have x2_1 : w1.cell? ⟨w.heap.size + 1, 1, none⟩ = some (.int .i64 t1) := by rw [hc _ _ (by omega)]; go_simp
  have x2_2 : w1.cell? ⟨w.heap.size + 1, 2, none⟩ = some (.int .i64 t2) := by rw [hc _ _ (by omega)]; go_simp
  have x2_3 : w1.cell? ⟨w.heap.size + 1, 3, none⟩ = some (.int .i64 t3) := by rw [hc _ _ (by omega)]; go_simp
  have l2 : w.heap.size + 1 < w1.heap.size := by omega
  have hg : w.heap.size ≤ w1.heap.size := by omega
  have HS := O1; clear O1
  have lS : w.heap.size + 1 + 1 + 1 < w1.heap.size := by omega
  have bS : w.heap.size ≤ w.heap.size + 1 + 1 + 1 := by omega
  clear hc hf
  go_wp2_with (fail)
  refine (command_any _ _ _ _ _ _ _ _ _ _ _ HO.out HS.out).mono ?_
  unfold four; rw [← K0.out, ← K1.out, ← K2.out, ← K3.out]
  rintro e w2 ⟨rfl, hb2⟩
  obtain ⟨hc, hf⟩ := bcell hb2
  have hs2 := hb2.size
  try simp only [World.size_alloc] at hs2 hc hf hb2
  have B2 := Lib.hid hb2; clear hb2
  replace x1_0 : w2.cell? ⟨w.heap.size, 0, none⟩ = some (.int .i64 s0) := by rw [hc _ _ (by omega)]; go_simp
  replace x1_1 : w2.cell? ⟨w.heap.size, 1, none⟩ = some (.int .i64 s1) := by rw [hc _ _ (by omega)]; go_simp
  replace x1_2 : w2.cell? ⟨w.heap.size, 2, none⟩ = some (.int .i64 s2) := by rw [hc _ _ (by omega)]; go_simp
  replace x1_3 : w2.cell? ⟨w.heap.size, 3, none⟩ = some (.int .i64 s3) := by rw [hc _ _ (by omega)]; go_simp
  replace l1 : w.heap.size < w2.heap.size := by omega
  replace x2_0 : w2.cell? ⟨w.heap.size + 1, 0, none⟩ = some (.int .i64 t0) := by rw [hc _ _ (by omega)]; go_simp
  replace x2_1 : w2.cell? ⟨w.heap.size + 1, 1, none⟩ = some (.int .i64 t1) := by rw [hc _ _ (by omega)]; go_simp
  replace x2_2 : w2.cell? ⟨w.heap.size + 1, 2, none⟩ = some (.int .i64 t2) := by rw [hc _ _ (by omega)]; go_simp
  replace x2_3 : w2.cell? ⟨w.heap.size + 1, 3, none⟩ = some (.int .i64 t3) := by rw [hc _ _ (by omega)]; go_simp
  replace l2 : w.heap.size + 1 < w2.heap.size := by omega
  replace hg : w.heap.size ≤ w2.heap.size := by omega
  have P := Lib.hid (below_keeps B2.out HS.out (by omega)); clear HS; have HS := P; clear P
  replace lS : w.heap.size + 1 + 1 + 1 < w2.heap.size := by omega
  clear hc hf
  go_wp2_with (fail)
  refine (step_any _ _ _ _ _ _ _ _ _ _ _ HO.out HS.out).mono ?_
  rw [← N0.out, ← N1.out, ← N2.out, ← N3.out]
  rintro e w3 ⟨rfl, ho3, hb3⟩
  obtain ⟨hc, hf⟩ := mcell hb3
  have hs3 := hb3.size
  try simp only [World.size_alloc] at hs3 hc hf hb3 ho3
  have B3 := Lib.hid hb3; clear hb3
  have O3 := Lib.hid ho3; clear ho3
  replace x1_0 : w3.cell? ⟨w.heap.size, 0, none⟩ = some (.int .i64 s0) := by rw [hc _ _ (by omega) (by omega)]; go_simp
  replace x1_1 : w3.cell? ⟨w.heap.size, 1, none⟩ = some (.int .i64 s1) := by rw [hc _ _ (by omega) (by omega)]; go_simp
  replace x1_2 : w3.cell? ⟨w.heap.size, 2, none⟩ = some (.int .i64 s2) := by rw [hc _ _ (by omega) (by omega)]; go_simp
  replace x1_3 : w3.cell? ⟨w.heap.size, 3, none⟩ = some (.int .i64 s3) := by rw [hc _ _ (by omega) (by omega)]; go_simp
  replace l1 : w.heap.size < w3.heap.size := by omega
  replace x2_0 : w3.cell? ⟨w.heap.size + 1, 0, none⟩ = some (.int .i64 t0) := by rw [hc _ _ (by omega) (by omega)]; go_simp
  replace x2_1 : w3.cell? ⟨w.heap.size + 1, 1, none⟩ = some (.int .i64 t1) := by rw [hc _ _ (by omega) (by omega)]; go_simp
  replace x2_2 : w3.cell? ⟨w.heap.size + 1, 2, none⟩ = some (.int .i64 t2) := by rw [hc _ _ (by omega) (by omega)]; go_simp
  replace x2_3 : w3.cell? ⟨w.heap.size + 1, 3, none⟩ = some (.int .i64 t3) := by rw [hc _ _ (by omega) (by omega)]; go_simp
  replace l2 : w.heap.size + 1 < w3.heap.size := by omega
  replace hg : w.heap.size ≤ w3.heap.size := by omega
  clear HS; have HS := O3; clear O3
  replace lS : w.heap.size + 1 + 1 + 1 < w3.heap.size := by omega
  clear hc hf
  go_wp2_with (fail)
  refine (speeds_any _ _ _ _ _ _ _ HS.out).mono ?_
  unfold four
  rintro e w4 ⟨rfl, hb4⟩
  obtain ⟨hc, hf⟩ := bcell hb4
  have hs4 := hb4.size
  try simp only [World.size_alloc] at hs4 hc hf hb4
  have B4 := Lib.hid hb4; clear hb4
  replace x1_0 : w4.cell? ⟨w.heap.size, 0, none⟩ = some (.int .i64 s0) := by rw [hc _ _ (by omega)]; go_simp
  replace x1_1 : w4.cell? ⟨w.heap.size, 1, none⟩ = some (.int .i64 s1) := by rw [hc _ _ (by omega)]; go_simp
  replace x1_2 : w4.cell? ⟨w.heap.size, 2, none⟩ = some (.int .i64 s2) := by rw [hc _ _ (by omega)]; go_simp
  replace x1_3 : w4.cell? ⟨w.heap.size, 3, none⟩ = some (.int .i64 s3) := by rw [hc _ _ (by omega)]; go_simp
  replace l1 : w.heap.size < w4.heap.size := by omega
  replace x2_0 : w4.cell? ⟨w.heap.size + 1, 0, none⟩ = some (.int .i64 t0) := by rw [hc _ _ (by omega)]; go_simp
  replace x2_1 : w4.cell? ⟨w.heap.size + 1, 1, none⟩ = some (.int .i64 t1) := by rw [hc _ _ (by omega)]; go_simp
  replace x2_2 : w4.cell? ⟨w.heap.size + 1, 2, none⟩ = some (.int .i64 t2) := by rw [hc _ _ (by omega)]; go_simp
  replace x2_3 : w4.cell? ⟨w.heap.size + 1, 3, none⟩ = some (.int .i64 t3) := by rw [hc _ _ (by omega)]; go_simp
  replace l2 : w.heap.size + 1 < w4.heap.size := by omega
  replace hg : w.heap.size ≤ w4.heap.size := by omega
  have P := Lib.hid (below_keeps B4.out HS.out (by omega)); clear HS; have HS := P; clear P
  replace lS : w.heap.size + 1 + 1 + 1 < w4.heap.size := by omega
  clear hc hf
  go_wp2_with (fail)
  clear HS lS bS
  have AW := Lib.hid awake_any
  have GG := Lib.hid hg
  go_loopw [11] (fun i wr => ∃ k n : Nat, k ≤ 4 ∧ i = .int .i64 k ∧ wr = (w4.alloc (.cells #[.int .i64 n0, .int .i64 n1, .int .i64 n2, .int .i64 n3] 24)).drewN n) (fun i _ => 4 - (intOf i).toNat)
  case atStart => exact ⟨0, 0, by omega, rfl, rfl⟩
  case round =>
    obtain ⟨k, nd, hk, rfl, rfl⟩ := hrel
    obtain rfl | rfl | rfl | rfl | rfl : k = 0 ∨ k = 1 ∨ k = 2 ∨ k = 3 ∨ k = 4 := by omega
    · by_cases hf : f = 0
      · have hn : n0 = 0 := A0.out hf
        subst hf
        subst hn
        go_wp2_with (fail)
        go_roundw
        case rel => exact ⟨1, nd, by omega, rfl, rfl⟩
        case measure => simp [intOf]
      · have hb : ((0 : Int) == f) = false := by simp; omega
        have hp := P0.out hf
        have a1 := absI_bd (n0 - t0) 33554432 (by omega)
        have a2 := absI_bd (s0 - t0) 33554432 (by omega)
        obtain ⟨a3, a4⟩ := a1
        obtain ⟨a5, a6⟩ := a2
        by_cases he : n0 = t0
        · have hq : (n0 != t0) = false := by simp [he]
          clear hp hf he
          go_wp2_with (fail)
          go_quiet (fail)
          go_wp2_with (fail)
          go_roundw
          case rel => exact ⟨1, _, by omega, rfl, by first | rfl | (rw [World.drewN_drewN])⟩
          case measure => simp [intOf]
        · have hq : (n0 != t0) = true := by simp [he]
          have hr : absI (n0 - t0) ≤ absI (s0 - t0) - 1032192 := by rcases hp with h | h; exact (he h).elim; exact h
          have hd : decide (absI (s0 - t0) - 1032192 < absI (n0 - t0)) = false := by simp; omega
          have e1 : IntKind.i64.wrap (n0 - t0) = n0 - t0 := IntWalk.i64_in _ (by omega)
          have e2 : IntKind.i64.wrap (s0 - t0) = s0 - t0 := IntWalk.i64_in _ (by omega)
          have e3 : IntKind.i64.wrap (absI (s0 - t0) - 1032192) = absI (s0 - t0) - 1032192 := IntWalk.i64_in _ (by omega)
          clear hp hf he
          go_wp2_with (fail)
          go_quiet ((go_at_call 15; first | exact quiet_left (size_any _ _ (by omega) (by omega)) | exact quiet_add_left (size_any _ _ (by omega) (by omega))))
          go_wp2_with (fail)
          go_roundw
          case rel => exact ⟨1, _, by omega, rfl, by first | rfl | (rw [World.drewN_drewN])⟩
          case measure => simp [intOf]
    · by_cases hf : f = 1
      · have hn : n1 = 0 := A1.out hf
        subst hf
        subst hn
        go_wp2_with (fail)
        go_roundw
        case rel => exact ⟨2, nd, by omega, rfl, rfl⟩
        case measure => simp [intOf]
      · have hb : ((1 : Int) == f) = false := by simp; omega
        have hp := P1.out hf
        have a1 := absI_bd (n1 - t1) 33554432 (by omega)
        have a2 := absI_bd (s1 - t1) 33554432 (by omega)
        obtain ⟨a3, a4⟩ := a1
        obtain ⟨a5, a6⟩ := a2
        by_cases he : n1 = t1
        · have hq : (n1 != t1) = false := by simp [he]
          clear hp hf he
          go_wp2_with (fail)
          go_quiet (fail)
          go_wp2_with (fail)
          go_roundw
          case rel => exact ⟨2, _, by omega, rfl, by first | rfl | (rw [World.drewN_drewN])⟩
          case measure => simp [intOf]
        · have hq : (n1 != t1) = true := by simp [he]
          have hr : absI (n1 - t1) ≤ absI (s1 - t1) - 1032192 := by rcases hp with h | h; exact (he h).elim; exact h
          have hd : decide (absI (s1 - t1) - 1032192 < absI (n1 - t1)) = false := by simp; omega
          have e1 : IntKind.i64.wrap (n1 - t1) = n1 - t1 := IntWalk.i64_in _ (by omega)
          have e2 : IntKind.i64.wrap (s1 - t1) = s1 - t1 := IntWalk.i64_in _ (by omega)
          have e3 : IntKind.i64.wrap (absI (s1 - t1) - 1032192) = absI (s1 - t1) - 1032192 := IntWalk.i64_in _ (by omega)
          clear hp hf he
          go_wp2_with (fail)
          go_quiet ((go_at_call 15; first | exact quiet_left (size_any _ _ (by omega) (by omega)) | exact quiet_add_left (size_any _ _ (by omega) (by omega))))
          go_wp2_with (fail)
          go_roundw
          case rel => exact ⟨2, _, by omega, rfl, by first | rfl | (rw [World.drewN_drewN])⟩
          case measure => simp [intOf]
    · by_cases hf : f = 2
      · have hn : n2 = 0 := A2.out hf
        subst hf
        subst hn
        go_wp2_with (fail)
        go_roundw
        case rel => exact ⟨3, nd, by omega, rfl, rfl⟩
        case measure => simp [intOf]
      · have hb : ((2 : Int) == f) = false := by simp; omega
        have hp := P2.out hf
        have a1 := absI_bd (n2 - t2) 33554432 (by omega)
        have a2 := absI_bd (s2 - t2) 33554432 (by omega)
        obtain ⟨a3, a4⟩ := a1
        obtain ⟨a5, a6⟩ := a2
        by_cases he : n2 = t2
        · have hq : (n2 != t2) = false := by simp [he]
          clear hp hf he
          go_wp2_with (fail)
          go_quiet (fail)
          go_wp2_with (fail)
          go_roundw
          case rel => exact ⟨3, _, by omega, rfl, by first | rfl | (rw [World.drewN_drewN])⟩
          case measure => simp [intOf]
        · have hq : (n2 != t2) = true := by simp [he]
          have hr : absI (n2 - t2) ≤ absI (s2 - t2) - 1032192 := by rcases hp with h | h; exact (he h).elim; exact h
          have hd : decide (absI (s2 - t2) - 1032192 < absI (n2 - t2)) = false := by simp; omega
          have e1 : IntKind.i64.wrap (n2 - t2) = n2 - t2 := IntWalk.i64_in _ (by omega)
          have e2 : IntKind.i64.wrap (s2 - t2) = s2 - t2 := IntWalk.i64_in _ (by omega)
          have e3 : IntKind.i64.wrap (absI (s2 - t2) - 1032192) = absI (s2 - t2) - 1032192 := IntWalk.i64_in _ (by omega)
          clear hp hf he
          go_wp2_with (fail)
          go_quiet ((go_at_call 15; first | exact quiet_left (size_any _ _ (by omega) (by omega)) | exact quiet_add_left (size_any _ _ (by omega) (by omega))))
          go_wp2_with (fail)
          go_roundw
          case rel => exact ⟨3, _, by omega, rfl, by first | rfl | (rw [World.drewN_drewN])⟩
          case measure => simp [intOf]
    · by_cases hf : f = 3
      · have hn : n3 = 0 := A3.out hf
        subst hf
        subst hn
        go_wp2_with (fail)
        go_roundw
        case rel => exact ⟨4, nd, by omega, rfl, rfl⟩
        case measure => simp [intOf]
      · have hb : ((3 : Int) == f) = false := by simp; omega
        have hp := P3.out hf
        have a1 := absI_bd (n3 - t3) 33554432 (by omega)
        have a2 := absI_bd (s3 - t3) 33554432 (by omega)
        obtain ⟨a3, a4⟩ := a1
        obtain ⟨a5, a6⟩ := a2
        by_cases he : n3 = t3
        · have hq : (n3 != t3) = false := by simp [he]
          clear hp hf he
          go_wp2_with (fail)
          go_quiet (fail)
          go_wp2_with (fail)
          go_roundw
          case rel => exact ⟨4, _, by omega, rfl, by first | rfl | (rw [World.drewN_drewN])⟩
          case measure => simp [intOf]
        · have hq : (n3 != t3) = true := by simp [he]
          have hr : absI (n3 - t3) ≤ absI (s3 - t3) - 1032192 := by rcases hp with h | h; exact (he h).elim; exact h
          have hd : decide (absI (s3 - t3) - 1032192 < absI (n3 - t3)) = false := by simp; omega
          have e1 : IntKind.i64.wrap (n3 - t3) = n3 - t3 := IntWalk.i64_in _ (by omega)
          have e2 : IntKind.i64.wrap (s3 - t3) = s3 - t3 := IntWalk.i64_in _ (by omega)
          have e3 : IntKind.i64.wrap (absI (s3 - t3) - 1032192) = absI (s3 - t3) - 1032192 := IntWalk.i64_in _ (by omega)
          clear hp hf he
          go_wp2_with (fail)
          go_quiet ((go_at_call 15; first | exact quiet_left (size_any _ _ (by omega) (by omega)) | exact quiet_add_left (size_any _ _ (by omega) (by omega))))
          go_wp2_with (fail)
          go_roundw
          case rel => exact ⟨4, _, by omega, rfl, by first | rfl | (rw [World.drewN_drewN])⟩
          case measure => simp [intOf]
    · go_wp2_with (fail)
      refine (AW.out _).mono ?_
      rintro e w5 ⟨rfl, hb5⟩
      go_wp2_with (fail)
      go_ret
      exact ⟨rfl, bl_step (below_drewN (bl_alloc (bl_go (bl_mod (bl_go (bl_go (bl_alloc (bl_alloc (Below.refl _ _) _) _) B1.out (by omega)) B2.out (by omega)) B3.out (by omega)) B4.out (by omega)) _) _) hb5⟩
theorem WheelsReach_walk (a0_0 : Int) (a0_1 : Int) (a0_2 : Int) (a0_3 : Int) (a1_0 : Int) (a1_1 : Int) (a1_2 : Int) (a1_3 : Int) (a2 : Int) (w : World) (w0_0 : (Lit.int .i64 a0_0).wf = true) (w0_1 : (Lit.int .i64 a0_1).wf = true) (w0_2 : (Lit.int .i64 a0_2).wf = true) (w0_3 : (Lit.int .i64 a0_3).wf = true) (w1_0 : (Lit.int .i64 a1_0).wf = true) (w1_1 : (Lit.int .i64 a1_1).wf = true) (w1_2 : (Lit.int .i64 a1_2).wf = true) (w1_3 : (Lit.int .i64 a1_3).wf = true) (w2 : (Lit.int .i64 a2).wf = true) :
    Calls Try.prog 6 #[.agg #[.int .i64 a0_0, .int .i64 a0_1, .int .i64 a0_2, .int .i64 a0_3], .agg #[.int .i64 a1_0, .int .i64 a1_1, .int .i64 a1_2, .int .i64 a1_3], .int .i64 a2] w fun e w' => e = .returned (.bool true) ∧ Below w.heap.size w w' := by
  by_cases h : a1_0 < -16777216 ∨ 16777216 < a1_0 ∨ a1_1 < -16777216 ∨ 16777216 < a1_1 ∨ a1_2 < -16777216 ∨ 16777216 < a1_2 ∨ a1_3 < -16777216 ∨ 16777216 < a1_3
  · exact reach_out _ _ _ _ _ _ _ _ _ w h
  · by_cases ok : okS a0_0 a0_1 a0_2 a0_3 a2
    · exact reach_in _ _ _ _ _ _ _ _ _ w (by omega) (by omega) (by omega) (by omega) ok
    · exact reach_bad _ _ _ _ _ _ _ _ _ w (by omega) (by omega) (by omega) (by omega) ok
end Go.Proofs.Ytcmmjikkoebboaa

