/-
  The walk of the law PassesKnown. Conditions: none.
-/
import Derived.Test.YtacdigofjlbimaaVal
import Derived.Laws.MakeOwn
namespace Go.Proofs.Ytacdigofjlbimaa
open Go.RowKit Kit
set_option linter.unusedVariables false
theorem lit_ns {w : World} {P : List Int} {cs : Array Value} (hc : cs = (P.map (Value.int .i64)).toArray) (hl : P.length ≤ maxLen) : NS (w.alloc (.cells cs 3)) (some ⟨w.heap.size, 0, none⟩) P.length P.length P := by
  subst hc
  refine ⟨rfl, Nat.le_refl _, hl, fun i hi => ⟨w.heap.size, 0, rfl, by simp, ?_⟩⟩
  rw [Nat.zero_add]
  exact cell_of (hp_new w _) (by simp [pv_get hi])
theorem nil_ns (w : World) : NS w none 0 0 [] := ⟨rfl, Nat.le_refl _, by simp [maxLen], fun i hi => by omega⟩
def ZW (n : Nat) : List Wn := List.replicate n ⟨0, 0, 0, 0, 0⟩
theorem zw_ws {w : World} {base n : Nat} {v : Value} (h : w.ownsRow base 39 5 v n (List.replicate n [Value.int .i64 0, .int .i64 0, .int .i64 0, .int .i64 0, .int .i64 0]).flatten) : ∃ a c, v = .slice a n c ∧ WS w a n c (ZW n) := by
  refine own_ws (base := base) ?_
  rw [show (ZW n).flatMap cellsW = (List.replicate n [Value.int .i64 0, .int .i64 0, .int .i64 0, .int .i64 0, .int .i64 0]).flatten from ?_]
  · exact h
  · unfold ZW
    rw [List.flatMap_def, List.map_replicate]
    rfl
theorem kn_ck_r2 : ckE FOUR 2 10 2 = 0 := by kernel_rfl
theorem kn_r2 : bestp (wl FOUR) FOUR.length 2 10 2 = [0, 2] := by kernel_rfl
theorem kn_ck_b1 : ckE FOUR 2 1 9 = 0 := by kernel_rfl
theorem kn_b1 : bestp (wl FOUR) FOUR.length 2 1 9 = [1] := by kernel_rfl
theorem kn_ck_b0 : ckE FOUR 2 0 9 = 0 := by kernel_rfl
theorem kn_b0 : bestp (wl FOUR) FOUR.length 2 0 9 = [] := by kernel_rfl
theorem kn_f0 : feaV FOUR 2 10 9 [1, 2] = false ∧ chkE FOUR 2 10 9 [1, 2] = 0 := ⟨by kernel_rfl, by kernel_rfl⟩
theorem kn_f1 : feaV FOUR 2 10 9 [0, 3, 2] = true ∧ chkE FOUR 2 10 9 [0, 3, 2] = 0 := ⟨by kernel_rfl, by kernel_rfl⟩
theorem kn_f2 : feaV FOUR 2 10 9 [2, 0] = false ∧ chkE FOUR 2 10 9 [2, 0] = 0 := ⟨by kernel_rfl, by kernel_rfl⟩
theorem kn_f3 : feaV FOUR 2 10 9 [0, 0] = false ∧ chkE FOUR 2 10 9 [0, 0] = 0 := ⟨by kernel_rfl, by kernel_rfl⟩
theorem kn_f4 : feaV FOUR 2 10 9 [4] = false ∧ chkE FOUR 2 10 9 [4] = 2 := ⟨by kernel_rfl, by kernel_rfl⟩
theorem kn_v : valV FOUR [] = 0 ∧ chkE FOUR 0 0 0 [] = 0 := ⟨by kernel_rfl, by kernel_rfl⟩
theorem kn_z41 : ckE (ZW 41) 0 0 0 = 3 := by kernel_rfl
theorem kn_z1 : ckE (ZW 1) 0 0 0 = 2 := by kernel_rfl
theorem kn_m41 : (madeCells (Value.agg #[.int .i64 0, .int .i64 0, .int .i64 0, .int .i64 0, .int .i64 0]).cells (41 * 5)).toList = (ZW 41).flatMap cellsW := by kernel_rfl
theorem kn_c41 {w : World} {a : Option Addr} (h : WS w a 41 41 (ZW 41)) : Calls Try.prog 19 #[.slice a 41 41, .agg #[.int .i64 0, .int .i64 0, .int .i64 0]] w fun e w' => e = .returned (.int .i64 3) ∧ Below w.heap.size w w' := by
  have h2 := check_any (ZW 41) 0 0 0 a 41 41 w h
  rw [kn_z41] at h2
  exact h2
theorem kn_e1 {w : World} {a : Option Addr} (h : WS w a 1 1 (ZW 1)) : Calls Try.prog 11 #[.slice a 1 1, .agg #[.int .i64 0, .int .i64 0, .int .i64 0]] w fun e w' => e = .returned (.tuple #[.slice none 0 0, .int .i64 2]) ∧ Below w.heap.size w w' := by
  have h2 := best_err (L := ZW 1) (g := 0) (b := 0) (m := 0) (by rw [kn_z1]; decide) h
  rw [kn_z1] at h2
  exact h2
theorem kn_m1 : (madeCells (Value.agg #[.int .i64 0, .int .i64 0, .int .i64 0, .int .i64 0, .int .i64 0]).cells (1 * 5)).toList = (ZW 1).flatMap cellsW := by kernel_rfl
set_option maxRecDepth 100000 in
set_option maxHeartbeats 12800000 in
theorem PassesKnown_walk (w : World) :
    Calls Try.prog 8 #[] w fun e w' => e = .returned (.bool true) ∧ Below w.heap.size w w' := by
  obtain ⟨i0, hi, hz0, hz1, hz2⟩ := info_parts info39
  have K_r2 := Lib.hid (fun W a h => best_ok (a := a) (n := 4) (c := 4) (w := W) kn_ck_r2 h)
  rw [kn_r2] at K_r2
  have K_b1 := Lib.hid (fun W a h => best_ok (a := a) (n := 4) (c := 4) (w := W) kn_ck_b1 h)
  rw [kn_b1] at K_b1
  have K_b0 := Lib.hid (fun W a h => best_ok (a := a) (n := 4) (c := 4) (w := W) kn_ck_b0 h)
  rw [kn_b0] at K_b0
  have F_0 := Lib.hid (fun W a h a' h' => feasible_any (L := FOUR) (g := 2) (b := 10) (m := 9) (P := [1, 2]) (a := a) (n := 4) (c := 4) (a' := a') (n' := 2) (c' := 2) (w := W) h h')
  rw [kn_f0.1, kn_f0.2] at F_0
  have F_1 := Lib.hid (fun W a h a' h' => feasible_any (L := FOUR) (g := 2) (b := 10) (m := 9) (P := [0, 3, 2]) (a := a) (n := 4) (c := 4) (a' := a') (n' := 3) (c' := 3) (w := W) h h')
  rw [kn_f1.1, kn_f1.2] at F_1
  have F_2 := Lib.hid (fun W a h a' h' => feasible_any (L := FOUR) (g := 2) (b := 10) (m := 9) (P := [2, 0]) (a := a) (n := 4) (c := 4) (a' := a') (n' := 2) (c' := 2) (w := W) h h')
  rw [kn_f2.1, kn_f2.2] at F_2
  have F_3 := Lib.hid (fun W a h a' h' => feasible_any (L := FOUR) (g := 2) (b := 10) (m := 9) (P := [0, 0]) (a := a) (n := 4) (c := 4) (a' := a') (n' := 2) (c' := 2) (w := W) h h')
  rw [kn_f3.1, kn_f3.2] at F_3
  have F_4 := Lib.hid (fun W a h a' h' => feasible_any (L := FOUR) (g := 2) (b := 10) (m := 9) (P := [4]) (a := a) (n := 4) (c := 4) (a' := a') (n' := 1) (c' := 1) (w := W) h h')
  rw [kn_f4.1, kn_f4.2] at F_4
  have V_0 := Lib.hid (fun W a h => value_any (L := FOUR) (P := []) (a := a) (n := 4) (c := 4) (w := W) h (nil_ns W))
  rw [kn_v.1, kn_v.2] at V_0
  have XX0 := Lib.hid (Below.refl w.heap.size w)
  go_enter Try.func8, Try.ntmps8
  go_wp2_with (fail)
  refine (rules_any _).mono ?_
  rintro e w1 ⟨rfl, bb1⟩
  have XX2 := Lib.hid (bl_step XX0.out bb1)
  clear XX0  bb1
  obtain ⟨WR, hWR⟩ : ∃ WR, WR = (w1.alloc (.cells #[.int .i64 2, .int .i64 10, .int .i64 2] 24)) := ⟨_, rfl⟩
  have HWR := Lib.hid hWR
  have bR : Below w1.heap.size w1 WR := by rw [hWR]; exact bl_alloc (Below.refl _ _) _
  have hR : WR.heap[w1.heap.size]? = some (.cells #[.int .i64 2, .int .i64 10, .int .i64 2] 24) := by rw [hWR]; exact hp_new _ _
  obtain ⟨R, hRe⟩ : ∃ R, R = w1.heap.size := ⟨_, rfl⟩
  have HRE := Lib.hid hRe
  rw [← hRe] at hR
  have r0 : WR.cell? ⟨R, 0, none⟩ = some (.int .i64 2) := cell_of hR rfl
  have r1 : WR.cell? ⟨R, 1, none⟩ = some (.int .i64 10) := cell_of hR rfl
  have r2 : WR.cell? ⟨R, 2, none⟩ = some (.int .i64 2) := cell_of hR rfl
  have rl := lt_of_obj hR
  have HR := Lib.hid hR
  clear hWR hRe hR
  go_wp2_with (fail)
  rw [← HWR.out, ← HRE.out]
  go_region_held3 (fun w' => w'.cell? ⟨R, 0, none⟩ = some (.int .i64 2) ∧ w'.cell? ⟨R, 1, none⟩ = some (.int .i64 10) ∧ w'.cell? ⟨R, 2, none⟩ = some (.int .i64 2)) (go_keep) ((first | (go_at_call 24; refine (four_any _).mono ?_; rintro e wA ⟨rfl, sA, bA⟩; have SA := Lib.hid sA; have BA := Lib.hid (bl_step (Below.refl WR.heap.size WR).drew bA); have hA := below_keeps BA.out HR.out rl; have r0 : wA.cell? ⟨R, 0, none⟩ = some (.int .i64 2) := cell_of hA rfl; have r1 : wA.cell? ⟨R, 1, none⟩ = some (.int .i64 10) := cell_of hA rfl; have r2 : wA.cell? ⟨R, 2, none⟩ = some (.int .i64 2) := cell_of hA rfl; have rlA := lt_of_obj hA; clear sA bA hA) | (go_at_call 11; refine (K_r2.out _ _ SA.out).mono ?_; rintro e wB ⟨a0, c0, rfl, nB, bB⟩; have NQ := Lib.hid nB; have BB := Lib.hid (bl_step BA.out bB); have hB := below_keeps BB.out HR.out rl; have r0 : wB.cell? ⟨R, 0, none⟩ = some (.int .i64 2) := cell_of hB rfl; have r1 : wB.cell? ⟨R, 1, none⟩ = some (.int .i64 10) := cell_of hB rfl; have r2 : wB.cell? ⟨R, 2, none⟩ = some (.int .i64 2) := cell_of hB rfl; have rlB := lt_of_obj hB; clear nB bB hB)))
  have bq := bl_step bR BB.out
  have YY0 := Lib.hid (bl_step XX2.out bq)
  clear bq bR r0 r1 r2 rl rlA rlB HR BA BB SA HWR HRE K_r2 XX2
  go_wp2_with (fail)
  refine (four_any _).mono ?_
  rintro e w3 ⟨rfl, sW, bb3⟩
  have SW4 := Lib.hid sW
  clear sW
  have XX5 := Lib.hid (bl_step YY0.out bb3)
  have NQ_q5 := Lib.hid (NQ.out.below bb3)
  clear YY0 NQ bb3
  go_wp2_with (fail)
  refine (K_b1.out _ _ SW4.out).mono ?_
  rintro e w8 ⟨a6, c7, rfl, nW, bb8⟩
  have NP9 := Lib.hid nW
  clear nW K_b1
  clear SW4
  have XX10 := Lib.hid (bl_step XX5.out bb8)
  have NQ_q10 := Lib.hid (NQ_q5.out.below bb8)
  clear XX5 NQ_q5 bb8
  go_wp2_with (fail)
  refine (four_any _).mono ?_
  rintro e w11 ⟨rfl, sW, bb11⟩
  have SW12 := Lib.hid sW
  clear sW
  have XX13 := Lib.hid (bl_step XX10.out bb11)
  have NQ_q13 := Lib.hid (NQ_q10.out.below bb11)
  have NP9_q13 := Lib.hid (NP9.out.below bb11)
  clear XX10 NQ_q10 NP9 bb11
  go_wp2_with (fail)
  refine (K_b0.out _ _ SW12.out).mono ?_
  rintro e w16 ⟨a14, c15, rfl, nW, bb16⟩
  have NP17 := Lib.hid nW
  clear nW K_b0
  clear SW12
  have XX18 := Lib.hid (bl_step XX13.out bb16)
  have NQ_q18 := Lib.hid (NQ_q13.out.below bb16)
  have NP9_q18 := Lib.hid (NP9_q13.out.below bb16)
  clear XX13 NQ_q13 NP9_q13 bb16
  go_wp2_with (fail)
  refine (four_any _).mono ?_
  rintro e w19 ⟨rfl, sW, bb19⟩
  have SW20 := Lib.hid sW
  clear sW
  have XX21 := Lib.hid (bl_step XX18.out bb19)
  have NQ_q21 := Lib.hid (NQ_q18.out.below bb19)
  have NP9_q21 := Lib.hid (NP9_q18.out.below bb19)
  have NP17_q21 := Lib.hid (NP17.out.below bb19)
  clear XX18 NQ_q18 NP9_q18 NP17 bb19
  go_wp2_with (fail)
  refine (rules_any _).mono ?_
  rintro e w22 ⟨rfl, bb22⟩
  have XX23 := Lib.hid (bl_step XX21.out bb22)
  have NQ_q23 := Lib.hid (NQ_q21.out.below bb22)
  have NP9_q23 := Lib.hid (NP9_q21.out.below bb22)
  have NP17_q23 := Lib.hid (NP17_q21.out.below bb22)
  have SW20_q23 := Lib.hid (SW20.out.below bb22)
  clear XX21 NQ_q21 NP9_q21 NP17_q21 SW20 bb22
  go_wp2_with (fail)
  have bL : Below w22.heap.size w22 (w22.alloc (.cells #[.int .i64 1, .int .i64 2] 3)) := bl_alloc (Below.refl _ _) _
  refine (F_0.out _ _ (SW20_q23.out.below bL) _ (lit_ns (P := [1, 2]) (by rfl) (by simp [maxLen]))).mono ?_
  rintro e w24 ⟨rfl, bM⟩
  have bb24 := bl_step bL bM
  clear bL bM F_0
  clear SW20_q23
  have XX25 := Lib.hid (bl_step XX23.out bb24)
  have NQ_q25 := Lib.hid (NQ_q23.out.below bb24)
  have NP9_q25 := Lib.hid (NP9_q23.out.below bb24)
  have NP17_q25 := Lib.hid (NP17_q23.out.below bb24)
  clear XX23 NQ_q23 NP9_q23 NP17_q23 bb24
  go_wp2_with (fail)
  refine (four_any _).mono ?_
  rintro e w26 ⟨rfl, sW, bb26⟩
  have SW27 := Lib.hid sW
  clear sW
  have XX28 := Lib.hid (bl_step XX25.out bb26)
  have NQ_q28 := Lib.hid (NQ_q25.out.below bb26)
  have NP9_q28 := Lib.hid (NP9_q25.out.below bb26)
  have NP17_q28 := Lib.hid (NP17_q25.out.below bb26)
  clear XX25 NQ_q25 NP9_q25 NP17_q25 bb26
  go_wp2_with (fail)
  refine (rules_any _).mono ?_
  rintro e w29 ⟨rfl, bb29⟩
  have XX30 := Lib.hid (bl_step XX28.out bb29)
  have NQ_q30 := Lib.hid (NQ_q28.out.below bb29)
  have NP9_q30 := Lib.hid (NP9_q28.out.below bb29)
  have NP17_q30 := Lib.hid (NP17_q28.out.below bb29)
  have SW27_q30 := Lib.hid (SW27.out.below bb29)
  clear XX28 NQ_q28 NP9_q28 NP17_q28 SW27 bb29
  go_wp2_with (fail)
  have bL : Below w29.heap.size w29 (w29.alloc (.cells #[.int .i64 0, .int .i64 3, .int .i64 2] 3)) := bl_alloc (Below.refl _ _) _
  refine (F_1.out _ _ (SW27_q30.out.below bL) _ (lit_ns (P := [0, 3, 2]) (by rfl) (by simp [maxLen]))).mono ?_
  rintro e w31 ⟨rfl, bM⟩
  have bb31 := bl_step bL bM
  clear bL bM F_1
  clear SW27_q30
  have XX32 := Lib.hid (bl_step XX30.out bb31)
  have NQ_q32 := Lib.hid (NQ_q30.out.below bb31)
  have NP9_q32 := Lib.hid (NP9_q30.out.below bb31)
  have NP17_q32 := Lib.hid (NP17_q30.out.below bb31)
  clear XX30 NQ_q30 NP9_q30 NP17_q30 bb31
  go_wp2_with (fail)
  refine (four_any _).mono ?_
  rintro e w33 ⟨rfl, sW, bb33⟩
  have SW34 := Lib.hid sW
  clear sW
  have XX35 := Lib.hid (bl_step XX32.out bb33)
  have NQ_q35 := Lib.hid (NQ_q32.out.below bb33)
  have NP9_q35 := Lib.hid (NP9_q32.out.below bb33)
  have NP17_q35 := Lib.hid (NP17_q32.out.below bb33)
  clear XX32 NQ_q32 NP9_q32 NP17_q32 bb33
  go_wp2_with (fail)
  refine (rules_any _).mono ?_
  rintro e w36 ⟨rfl, bb36⟩
  have XX37 := Lib.hid (bl_step XX35.out bb36)
  have NQ_q37 := Lib.hid (NQ_q35.out.below bb36)
  have NP9_q37 := Lib.hid (NP9_q35.out.below bb36)
  have NP17_q37 := Lib.hid (NP17_q35.out.below bb36)
  have SW34_q37 := Lib.hid (SW34.out.below bb36)
  clear XX35 NQ_q35 NP9_q35 NP17_q35 SW34 bb36
  go_wp2_with (fail)
  have bL : Below w36.heap.size w36 (w36.alloc (.cells #[.int .i64 2, .int .i64 0] 3)) := bl_alloc (Below.refl _ _) _
  refine (F_2.out _ _ (SW34_q37.out.below bL) _ (lit_ns (P := [2, 0]) (by rfl) (by simp [maxLen]))).mono ?_
  rintro e w38 ⟨rfl, bM⟩
  have bb38 := bl_step bL bM
  clear bL bM F_2
  clear SW34_q37
  have XX39 := Lib.hid (bl_step XX37.out bb38)
  have NQ_q39 := Lib.hid (NQ_q37.out.below bb38)
  have NP9_q39 := Lib.hid (NP9_q37.out.below bb38)
  have NP17_q39 := Lib.hid (NP17_q37.out.below bb38)
  clear XX37 NQ_q37 NP9_q37 NP17_q37 bb38
  go_wp2_with (fail)
  refine (four_any _).mono ?_
  rintro e w40 ⟨rfl, sW, bb40⟩
  have SW41 := Lib.hid sW
  clear sW
  have XX42 := Lib.hid (bl_step XX39.out bb40)
  have NQ_q42 := Lib.hid (NQ_q39.out.below bb40)
  have NP9_q42 := Lib.hid (NP9_q39.out.below bb40)
  have NP17_q42 := Lib.hid (NP17_q39.out.below bb40)
  clear XX39 NQ_q39 NP9_q39 NP17_q39 bb40
  go_wp2_with (fail)
  refine (rules_any _).mono ?_
  rintro e w43 ⟨rfl, bb43⟩
  have XX44 := Lib.hid (bl_step XX42.out bb43)
  have NQ_q44 := Lib.hid (NQ_q42.out.below bb43)
  have NP9_q44 := Lib.hid (NP9_q42.out.below bb43)
  have NP17_q44 := Lib.hid (NP17_q42.out.below bb43)
  have SW41_q44 := Lib.hid (SW41.out.below bb43)
  clear XX42 NQ_q42 NP9_q42 NP17_q42 SW41 bb43
  go_wp2_with (fail)
  have bL : Below w43.heap.size w43 (w43.alloc (.cells #[.int .i64 0, .int .i64 0] 3)) := bl_alloc (Below.refl _ _) _
  refine (F_3.out _ _ (SW41_q44.out.below bL) _ (lit_ns (P := [0, 0]) (by rfl) (by simp [maxLen]))).mono ?_
  rintro e w45 ⟨rfl, bM⟩
  have bb45 := bl_step bL bM
  clear bL bM F_3
  clear SW41_q44
  have XX46 := Lib.hid (bl_step XX44.out bb45)
  have NQ_q46 := Lib.hid (NQ_q44.out.below bb45)
  have NP9_q46 := Lib.hid (NP9_q44.out.below bb45)
  have NP17_q46 := Lib.hid (NP17_q44.out.below bb45)
  clear XX44 NQ_q44 NP9_q44 NP17_q44 bb45
  go_wp2_with (fail)
  refine (four_any _).mono ?_
  rintro e w47 ⟨rfl, sW, bb47⟩
  have SW48 := Lib.hid sW
  clear sW
  have XX49 := Lib.hid (bl_step XX46.out bb47)
  have NQ_q49 := Lib.hid (NQ_q46.out.below bb47)
  have NP9_q49 := Lib.hid (NP9_q46.out.below bb47)
  have NP17_q49 := Lib.hid (NP17_q46.out.below bb47)
  clear XX46 NQ_q46 NP9_q46 NP17_q46 bb47
  go_wp2_with (fail)
  refine (rules_any _).mono ?_
  rintro e w50 ⟨rfl, bb50⟩
  have XX51 := Lib.hid (bl_step XX49.out bb50)
  have NQ_q51 := Lib.hid (NQ_q49.out.below bb50)
  have NP9_q51 := Lib.hid (NP9_q49.out.below bb50)
  have NP17_q51 := Lib.hid (NP17_q49.out.below bb50)
  have SW48_q51 := Lib.hid (SW48.out.below bb50)
  clear XX49 NQ_q49 NP9_q49 NP17_q49 SW48 bb50
  go_wp2_with (fail)
  have bL : Below w50.heap.size w50 (w50.alloc (.cells #[.int .i64 4] 3)) := bl_alloc (Below.refl _ _) _
  refine (F_4.out _ _ (SW48_q51.out.below bL) _ (lit_ns (P := [4]) (by rfl) (by simp [maxLen]))).mono ?_
  rintro e w52 ⟨rfl, bM⟩
  have bb52 := bl_step bL bM
  clear bL bM F_4
  clear SW48_q51
  have XX53 := Lib.hid (bl_step XX51.out bb52)
  have NQ_q53 := Lib.hid (NQ_q51.out.below bb52)
  have NP9_q53 := Lib.hid (NP9_q51.out.below bb52)
  have NP17_q53 := Lib.hid (NP17_q51.out.below bb52)
  clear XX51 NQ_q51 NP9_q51 NP17_q51 bb52
  go_wp2_with (fail)
  refine (four_any _).mono ?_
  rintro e w54 ⟨rfl, sW, bb54⟩
  have SW55 := Lib.hid sW
  clear sW
  have XX56 := Lib.hid (bl_step XX53.out bb54)
  have NQ_q56 := Lib.hid (NQ_q53.out.below bb54)
  have NP9_q56 := Lib.hid (NP9_q53.out.below bb54)
  have NP17_q56 := Lib.hid (NP17_q53.out.below bb54)
  clear XX53 NQ_q53 NP9_q53 NP17_q53 bb54
  go_wp2_with (fail)
  refine (V_0.out _ _ SW55.out).mono ?_
  rintro e w57 ⟨rfl, bb57⟩
  clear V_0
  clear SW55
  have XX58 := Lib.hid (bl_step XX56.out bb57)
  have NQ_q58 := Lib.hid (NQ_q56.out.below bb57)
  have NP9_q58 := Lib.hid (NP9_q56.out.below bb57)
  have NP17_q58 := Lib.hid (NP17_q56.out.below bb57)
  clear XX56 NQ_q56 NP9_q56 NP17_q56 bb57
  have hsz59 := XX58.out.size
  go_wp2_with (at_make; refine wpList_make_full _ rfl _ _ 22 rfl w.heap.size 39 i0 (.agg #[.int .i64 0, .int .i64 0, .int .i64 0, .int .i64 0, .int .i64 0]) 5 Try.underlying22 hi hz0 hz1 _ _ _ _ 41 rfl rfl rfl rfl (by rw [hz2]; omega) (by unfold maxLen; omega) hsz59 ?_; intro w59 ownW hgW; replace ownW := Lib.hid ownW; replace hgW := Lib.hid hgW)
  have bb59 : Below w57.heap.size w57 w59 := (Below.refl _ _).grown hgW.out (Nat.le_refl _) (fun k e => by cases e)
  have ow := ownW.out
  rw [kn_m41] at ow
  obtain ⟨az, cz, hvz, hWz⟩ := own_ws ow
  simp only [Value.slice.injEq, true_and] at hvz
  rw [← hvz.1, ← hvz.2] at hWz
  have ZS60 := Lib.hid hWz
  clear ow hvz hWz ownW hgW
  have XX61 := Lib.hid (bl_step XX58.out bb59)
  have NQ_q61 := Lib.hid (NQ_q58.out.below bb59)
  have NP9_q61 := Lib.hid (NP9_q58.out.below bb59)
  have NP17_q61 := Lib.hid (NP17_q58.out.below bb59)
  clear XX58 NQ_q58 NP9_q58 NP17_q58 bb59
  go_wp2_with (fail)
  refine (kn_c41 ZS60.out).mono ?_
  rintro e w62 ⟨rfl, bb62⟩
  clear ZS60
  have XX63 := Lib.hid (bl_step XX61.out bb62)
  have NQ_q63 := Lib.hid (NQ_q61.out.below bb62)
  have NP9_q63 := Lib.hid (NP9_q61.out.below bb62)
  have NP17_q63 := Lib.hid (NP17_q61.out.below bb62)
  clear XX61 NQ_q61 NP9_q61 NP17_q61 bb62
  have hsz64 := XX63.out.size
  go_wp2_with (at_make; refine wpList_make_full _ rfl _ _ 22 rfl w.heap.size 39 i0 (.agg #[.int .i64 0, .int .i64 0, .int .i64 0, .int .i64 0, .int .i64 0]) 5 Try.underlying22 hi hz0 hz1 _ _ _ _ 1 rfl rfl rfl rfl (by rw [hz2]; omega) (by unfold maxLen; omega) hsz64 ?_; intro w64 ownW hgW; replace ownW := Lib.hid ownW; replace hgW := Lib.hid hgW)
  have bb64 : Below w62.heap.size w62 w64 := (Below.refl _ _).grown hgW.out (Nat.le_refl _) (fun k e => by cases e)
  have ow := ownW.out
  rw [kn_m1] at ow
  obtain ⟨az, cz, hvz, hWz⟩ := own_ws ow
  simp only [Value.slice.injEq, true_and] at hvz
  rw [← hvz.1, ← hvz.2] at hWz
  have ZS65 := Lib.hid hWz
  clear ow hvz hWz ownW hgW
  have XX66 := Lib.hid (bl_step XX63.out bb64)
  have NQ_q66 := Lib.hid (NQ_q63.out.below bb64)
  have NP9_q66 := Lib.hid (NP9_q63.out.below bb64)
  have NP17_q66 := Lib.hid (NP17_q63.out.below bb64)
  clear XX63 NQ_q63 NP9_q63 NP17_q63 bb64
  go_wp2_with (fail)
  refine (kn_e1 ZS65.out).mono ?_
  rintro e w67 ⟨rfl, bb67⟩
  clear ZS65
  have XX68 := Lib.hid (bl_step XX66.out bb67)
  have NQ_q68 := Lib.hid (NQ_q66.out.below bb67)
  have NP9_q68 := Lib.hid (NP9_q66.out.below bb67)
  have NP17_q68 := Lib.hid (NP17_q66.out.below bb67)
  clear XX66 NQ_q66 NP9_q66 NP17_q66 bb67
  go_wp2_with (fail)
  have bL : Below w67.heap.size w67 (w67.alloc (.cells #[.int .i64 0, .int .i64 2] 3)) := bl_alloc (Below.refl _ _) _
  refine (sameints_any (zs [0, 2]) [0, 2] a0 _ 2 2 c0 2 _ (NQ_q68.out.below bL) (lit_ns (P := [0, 2]) (by rfl) (by simp [maxLen])) (by omega) (by omega)).mono ?_
  rw [show decide (zs [0, 2] = [0, 2]) = true from rfl]
  rintro e _ ⟨rfl, q69, rfl⟩
  obtain ⟨w69, hw⟩ : ∃ W, W = (w67.alloc (.cells #[.int .i64 0, .int .i64 2] 3)).drewN q69 := ⟨_, rfl⟩
  have bb69 : Below w67.heap.size w67 w69 := by rw [hw]; exact below_drewN bL q69
  rw [← hw]
  clear hw bL
  clear NQ_q68
  have XX70 := Lib.hid (bl_step XX68.out bb69)
  have NP9_q70 := Lib.hid (NP9_q68.out.below bb69)
  have NP17_q70 := Lib.hid (NP17_q68.out.below bb69)
  clear XX68 NP9_q68 NP17_q68 bb69
  go_wp2_with (fail)
  have bL : Below w69.heap.size w69 (w69.alloc (.cells #[.int .i64 1] 3)) := bl_alloc (Below.refl _ _) _
  refine (sameints_any (zs [1]) [1] a6 _ 1 1 c7 1 _ (NP9_q70.out.below bL) (lit_ns (P := [1]) (by rfl) (by simp [maxLen])) (by omega) (by omega)).mono ?_
  rw [show decide (zs [1] = [1]) = true from rfl]
  rintro e _ ⟨rfl, q71, rfl⟩
  obtain ⟨w71, hw⟩ : ∃ W, W = (w69.alloc (.cells #[.int .i64 1] 3)).drewN q71 := ⟨_, rfl⟩
  have bb71 : Below w69.heap.size w69 w71 := by rw [hw]; exact below_drewN bL q71
  rw [← hw]
  clear hw bL
  clear NP9_q70
  have XX72 := Lib.hid (bl_step XX70.out bb71)
  have NP17_q72 := Lib.hid (NP17_q70.out.below bb71)
  clear XX70 NP17_q70 bb71
  go_wp2_with (fail)
  refine (awake_any _).mono ?_
  rintro e w73 ⟨rfl, bb73⟩
  have XX74 := Lib.hid (bl_step XX72.out bb73)
  have NP17_q74 := Lib.hid (NP17_q72.out.below bb73)
  clear XX72 NP17_q72 bb73
  go_wp2_with (fail)
  go_ret
  exact ⟨rfl, XX74.out⟩
end Go.Proofs.Ytacdigofjlbimaa
