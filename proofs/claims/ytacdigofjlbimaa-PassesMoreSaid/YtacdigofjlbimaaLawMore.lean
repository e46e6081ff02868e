/-
  The walk of the law PassesMore. Conditions: none beyond arguments that can be read.
-/
import Derived.Test.YtacdigofjlbimaaMore
import Derived.Deep.CutRange
import Derived.Deep.DeepCutAuto
import Derived.Deep.RegionLaw
namespace Go.Proofs.Ytacdigofjlbimaa
open Go.RowKit Kit
set_option linter.unusedVariables false
theorem flat_one (L : List Wn) : ∀ u ∈ L.flatMap cellsW, u.oneCell' = true := by
  intro u hu
  obtain ⟨y, _, hy⟩ := List.mem_flatMap.1 hu
  simp only [cellsW, List.mem_cons, List.not_mem_nil, or_false] at hy
  rcases hy with rfl | rfl | rfl | rfl | rfl <;> rfl
set_option maxRecDepth 100000 in
set_option maxHeartbeats 1600000 in
theorem more_walk (a : Option Addr) (n c : Nat) (L : List Wn) (x : Wn) (g b m g2 b2 m2 : Int) (w : World) (hW : WS w a n c L) (hz : a = none → n = 0 ∧ c = 0) :
    Calls Try.prog 6 #[.slice a n c, .agg #[.int .i64 x.fr, .int .i64 x.to, .int .i64 x.st, .int .i64 x.va, .int .i64 x.co], .agg #[.int .i64 g, .int .i64 b, .int .i64 m, .int .i64 g2, .int .i64 b2, .int .i64 m2]] w fun e w' => e = .returned (.bool true) ∧ Below w.heap.size w w' := by
  have hcap := hW.2.1
  have hcap2 := hW.2.2.1
  unfold maxLen at hcap2
  have HW := Lib.hid hW
  have HZ := Lib.hid hz
  have N1 := Lib.hid hW.1
  have VA := Lib.hid (fun W (h : WS W a n c L) => valid_any (L := L) (g := g) (b := b) (m := m) h)
  have VB := Lib.hid (fun W (h : WS W a n c L) => valid_any (L := L) (g := g2) (b := b2) (m := m2) h)
  have VM := Lib.hid (fun W a' n' c' (h : WS W a' n' c' (L ++ [x])) => valid_any (L := L ++ [x]) (g := g) (b := b) (m := m) h)
  have SO := Lib.hid (strict_ok (L := L) (g := g) (b := b) (m := m) (g2 := g2) (b2 := b2) (m2 := m2))
  have MO := Lib.hid (more_ok (L := L) (x := x) (g := g) (b := b) (m := m))
  obtain ⟨T1, hT1⟩ : ∃ T, Hid (T = okV L g b m) := ⟨_, Lib.hid rfl⟩
  obtain ⟨T2, hT2⟩ : ∃ T, Hid (T = okV L g2 b2 m2) := ⟨_, Lib.hid rfl⟩
  obtain ⟨T3, hT3⟩ : ∃ T, Hid (T = okV (L ++ [x]) g b m) := ⟨_, Lib.hid rfl⟩
  rw [← hT1.out] at VA
  rw [← hT2.out] at VB
  rw [← hT3.out] at VM
  obtain ⟨i0, hi, hz0, hz1, hz2⟩ := info_parts info39
  clear hW hz
  go_enter Try.func6, Try.ntmps6
  go_upto_region 1 with (fail)
  go_cut [7, 8] from 9 (fun v7 v8 wc => ∃ p7 p8, v7 = .pointer (some ⟨p7, 0, none⟩) ∧ v8 = .pointer (some ⟨p8, 0, none⟩) ∧ MR w x g b m g2 b2 m2 p7 p8 wc)
  case first =>
    go_region
    all_goals (try go_wp2_with (fail))
    all_goals go_meet
    · exact ⟨_, _, rfl, rfl, mr_a _⟩
    · exact ⟨_, _, rfl, rfl, mr_b _⟩
  case rest =>
    obtain ⟨p7, p8, rfl, rfl, hM⟩ := hcut
    have M0 := Lib.hid hM
    clear hM
    have y0 : wc.cell? ⟨p7, 0, none⟩ = some (.int .i64 g) := cell_of (i := 0) M0.out.c7 rfl
    have y1 : wc.cell? ⟨p7, 1, none⟩ = some (.int .i64 b) := cell_of (i := 1) M0.out.c7 rfl
    have y2 : wc.cell? ⟨p7, 2, none⟩ = some (.int .i64 m) := cell_of (i := 2) M0.out.c7 rfl
    have l7 := lt_of_obj M0.out.c7
    have z0 : wc.cell? ⟨p8, 0, none⟩ = some (.int .i64 g2) := cell_of (i := 0) M0.out.c8 rfl
    have z1 : wc.cell? ⟨p8, 1, none⟩ = some (.int .i64 b2) := cell_of (i := 1) M0.out.c8 rfl
    have z2 : wc.cell? ⟨p8, 2, none⟩ = some (.int .i64 m2) := cell_of (i := 2) M0.out.c8 rfl
    have l8 := lt_of_obj M0.out.c8
    by_cases h15 : 15 < n
    · have d15 : decide ((15 : Int) < (n : Int)) = true := by simp; omega
      have d15b : decide (15 < n) = true := by simpa using h15
      go_wp2_with (fail)
      refine (awake_any _).mono ?_
      rintro e w1 ⟨rfl, b1⟩
      have E1 := Lib.hid (M0.out.below b1).bl
      clear b1
      go_wp2_with (fail)
      go_ret
      exact ⟨rfl, E1.out⟩
    have d15 : decide ((15 : Int) < (n : Int)) = false := by simp; omega
    have d15b : decide (15 < n) = false := by simpa using h15
    cases T1 with
    | false =>
      go_wp2_with (fail)
      refine (VA.out _ (HW.out.below M0.out.bl)).mono ?_
      rintro e w1 ⟨rfl, b1⟩
      have M1 := Lib.hid (M0.out.below b1)
      clear b1
      clear y0 y1 y2 z0 z1 z2 l7 l8
      have y0 : w1.cell? ⟨p7, 0, none⟩ = some (.int .i64 g) := cell_of (i := 0) M1.out.c7 rfl
      have y1 : w1.cell? ⟨p7, 1, none⟩ = some (.int .i64 b) := cell_of (i := 1) M1.out.c7 rfl
      have y2 : w1.cell? ⟨p7, 2, none⟩ = some (.int .i64 m) := cell_of (i := 2) M1.out.c7 rfl
      have l7 := lt_of_obj M1.out.c7
      have z0 : w1.cell? ⟨p8, 0, none⟩ = some (.int .i64 g2) := cell_of (i := 0) M1.out.c8 rfl
      have z1 : w1.cell? ⟨p8, 1, none⟩ = some (.int .i64 b2) := cell_of (i := 1) M1.out.c8 rfl
      have z2 : w1.cell? ⟨p8, 2, none⟩ = some (.int .i64 m2) := cell_of (i := 2) M1.out.c8 rfl
      have l8 := lt_of_obj M1.out.c8
      go_wp2_with (fail)
      refine (awake_any _).mono ?_
      rintro e w2 ⟨rfl, b2⟩
      have E2 := Lib.hid (M1.out.below b2).bl
      clear b2
      go_wp2_with (fail)
      go_ret
      exact ⟨rfl, E2.out⟩
    | true =>
      cases T2 with
      | false =>
        go_wp2_with (fail)
        refine (VA.out _ (HW.out.below M0.out.bl)).mono ?_
        rintro e w1 ⟨rfl, b1⟩
        have M1 := Lib.hid (M0.out.below b1)
        clear b1
        clear y0 y1 y2 z0 z1 z2 l7 l8
        have y0 : w1.cell? ⟨p7, 0, none⟩ = some (.int .i64 g) := cell_of (i := 0) M1.out.c7 rfl
        have y1 : w1.cell? ⟨p7, 1, none⟩ = some (.int .i64 b) := cell_of (i := 1) M1.out.c7 rfl
        have y2 : w1.cell? ⟨p7, 2, none⟩ = some (.int .i64 m) := cell_of (i := 2) M1.out.c7 rfl
        have l7 := lt_of_obj M1.out.c7
        have z0 : w1.cell? ⟨p8, 0, none⟩ = some (.int .i64 g2) := cell_of (i := 0) M1.out.c8 rfl
        have z1 : w1.cell? ⟨p8, 1, none⟩ = some (.int .i64 b2) := cell_of (i := 1) M1.out.c8 rfl
        have z2 : w1.cell? ⟨p8, 2, none⟩ = some (.int .i64 m2) := cell_of (i := 2) M1.out.c8 rfl
        have l8 := lt_of_obj M1.out.c8
        go_wp2_with (fail)
        refine (VB.out _ (HW.out.below M1.out.bl)).mono ?_
        rintro e w2 ⟨rfl, b2'⟩
        have M2 := Lib.hid (M1.out.below b2')
        clear b2'
        clear y0 y1 y2 z0 z1 z2 l7 l8
        have y0 : w2.cell? ⟨p7, 0, none⟩ = some (.int .i64 g) := cell_of (i := 0) M2.out.c7 rfl
        have y1 : w2.cell? ⟨p7, 1, none⟩ = some (.int .i64 b) := cell_of (i := 1) M2.out.c7 rfl
        have y2 : w2.cell? ⟨p7, 2, none⟩ = some (.int .i64 m) := cell_of (i := 2) M2.out.c7 rfl
        have l7 := lt_of_obj M2.out.c7
        have z0 : w2.cell? ⟨p8, 0, none⟩ = some (.int .i64 g2) := cell_of (i := 0) M2.out.c8 rfl
        have z1 : w2.cell? ⟨p8, 1, none⟩ = some (.int .i64 b2) := cell_of (i := 1) M2.out.c8 rfl
        have z2 : w2.cell? ⟨p8, 2, none⟩ = some (.int .i64 m2) := cell_of (i := 2) M2.out.c8 rfl
        have l8 := lt_of_obj M2.out.c8
        go_wp2_with (fail)
        refine (awake_any _).mono ?_
        rintro e w3 ⟨rfl, b3⟩
        have E3 := Lib.hid (M2.out.below b3).bl
        clear b3
        go_wp2_with (fail)
        go_ret
        exact ⟨rfl, E3.out⟩
      | true =>
        obtain ⟨okS, leS⟩ := SO.out hT1.out.symm hT2.out.symm
        have SA := Lib.hid (fun W (h : WS W a n c L) => bestl_any h okS)
        have BA := Lib.hid (fun W (h : WS W a n c L) => bestl_any h hT1.out.symm)
        generalize value (wl L) (bestp (wl L) L.length (mx g g2) (mn b b2) (mn m m2)) = vs at SA leS
        generalize bestp (wl L) L.length (mx g g2) (mn b b2) (mn m m2) = ps at SA
        have MO1 := Lib.hid (MO.out hT1.out.symm)
        generalize value (wl L) (bestp (wl L) L.length g b m) = va at BA leS MO1
        generalize bestp (wl L) L.length g b m = pa at BA
        have dS : decide (va < vs) = false := by simpa using leS
        have gmx := fun w x y => run_max_mx Try.prog w #[2, 2] 2 .i64 .i64 x y
        have gmn := fun w x y => run_min_mn Try.prog w #[2, 2] 2 .i64 .i64 x y
        have gmn3 := fun w x y => run_min_mn Try.prog w #[3, 3] 3 .i64 .i64 x y
        clear okS leS SO MO hT1 hT2
        go_wp2_with (fail)
        refine (VA.out _ (HW.out.below M0.out.bl)).mono ?_
        rintro e w1 ⟨rfl, b1⟩
        have M1 := Lib.hid (M0.out.below b1)
        clear b1
        clear y0 y1 y2 z0 z1 z2 l7 l8
        have y0 : w1.cell? ⟨p7, 0, none⟩ = some (.int .i64 g) := cell_of (i := 0) M1.out.c7 rfl
        have y1 : w1.cell? ⟨p7, 1, none⟩ = some (.int .i64 b) := cell_of (i := 1) M1.out.c7 rfl
        have y2 : w1.cell? ⟨p7, 2, none⟩ = some (.int .i64 m) := cell_of (i := 2) M1.out.c7 rfl
        have l7 := lt_of_obj M1.out.c7
        have z0 : w1.cell? ⟨p8, 0, none⟩ = some (.int .i64 g2) := cell_of (i := 0) M1.out.c8 rfl
        have z1 : w1.cell? ⟨p8, 1, none⟩ = some (.int .i64 b2) := cell_of (i := 1) M1.out.c8 rfl
        have z2 : w1.cell? ⟨p8, 2, none⟩ = some (.int .i64 m2) := cell_of (i := 2) M1.out.c8 rfl
        have l8 := lt_of_obj M1.out.c8
        go_wp2_with (fail)
        refine (VB.out _ (HW.out.below M1.out.bl)).mono ?_
        rintro e w2 ⟨rfl, b2'⟩
        have M2 := Lib.hid (M1.out.below b2')
        clear b2'
        clear y0 y1 y2 z0 z1 z2 l7 l8
        have y0 : w2.cell? ⟨p7, 0, none⟩ = some (.int .i64 g) := cell_of (i := 0) M2.out.c7 rfl
        have y1 : w2.cell? ⟨p7, 1, none⟩ = some (.int .i64 b) := cell_of (i := 1) M2.out.c7 rfl
        have y2 : w2.cell? ⟨p7, 2, none⟩ = some (.int .i64 m) := cell_of (i := 2) M2.out.c7 rfl
        have l7 := lt_of_obj M2.out.c7
        have z0 : w2.cell? ⟨p8, 0, none⟩ = some (.int .i64 g2) := cell_of (i := 0) M2.out.c8 rfl
        have z1 : w2.cell? ⟨p8, 1, none⟩ = some (.int .i64 b2) := cell_of (i := 1) M2.out.c8 rfl
        have z2 : w2.cell? ⟨p8, 2, none⟩ = some (.int .i64 m2) := cell_of (i := 2) M2.out.c8 rfl
        have l8 := lt_of_obj M2.out.c8
        go_wp2_with (fail)
        refine (SA.out _ (HW.out.below (bl_alloc M2.out.bl _))).mono ?_
        rintro e w3 ⟨a3, c3, rfl, _, b3⟩
        have M3 := Lib.hid ((M2.out.below (bl_alloc (Below.refl _ _) _)).below b3)
        clear b3 SA gmx gmn gmn3
        clear y0 y1 y2 z0 z1 z2 l7 l8
        have y0 : w3.cell? ⟨p7, 0, none⟩ = some (.int .i64 g) := cell_of (i := 0) M3.out.c7 rfl
        have y1 : w3.cell? ⟨p7, 1, none⟩ = some (.int .i64 b) := cell_of (i := 1) M3.out.c7 rfl
        have y2 : w3.cell? ⟨p7, 2, none⟩ = some (.int .i64 m) := cell_of (i := 2) M3.out.c7 rfl
        have l7 := lt_of_obj M3.out.c7
        have z0 : w3.cell? ⟨p8, 0, none⟩ = some (.int .i64 g2) := cell_of (i := 0) M3.out.c8 rfl
        have z1 : w3.cell? ⟨p8, 1, none⟩ = some (.int .i64 b2) := cell_of (i := 1) M3.out.c8 rfl
        have z2 : w3.cell? ⟨p8, 2, none⟩ = some (.int .i64 m2) := cell_of (i := 2) M3.out.c8 rfl
        have l8 := lt_of_obj M3.out.c8
        go_wp2_with (fail)
        refine (BA.out _ (HW.out.below M3.out.bl)).mono ?_
        rintro e w4 ⟨a4, c4, rfl, _, b4⟩
        have M4 := Lib.hid (M3.out.below b4)
        clear b4 BA
        clear y0 y1 y2 z0 z1 z2 l7 l8
        have x0 : w4.cell? ⟨w.heap.size, 0, none⟩ = some (.int .i64 x.fr) := cell_of (i := 0) M4.out.xc rfl
        have x1 : w4.cell? ⟨w.heap.size, 1, none⟩ = some (.int .i64 x.to) := cell_of (i := 1) M4.out.xc rfl
        have x2 : w4.cell? ⟨w.heap.size, 2, none⟩ = some (.int .i64 x.st) := cell_of (i := 2) M4.out.xc rfl
        have x3 : w4.cell? ⟨w.heap.size, 3, none⟩ = some (.int .i64 x.va) := cell_of (i := 3) M4.out.xc rfl
        have x4 : w4.cell? ⟨w.heap.size, 4, none⟩ = some (.int .i64 x.co) := cell_of (i := 4) M4.out.xc rfl
        have lx := lt_of_obj M4.out.xc
        have NW := Lib.hid (HW.out.below M4.out.bl)
        have h15' : n ≤ 15 := by omega
        go_upto_region 9 with (fail)
        go_cut [16] from 17 (fun v16 wc => wc.ownsRow w4.heap.size 39 5 v16 (n + 1) (L.flatMap cellsW ++ cellsW x) ∧ Below w4.heap.size w4 wc)
        case first =>
          go_region_law (first
            | (refine step_append_any _ (by rfl) _ _ 22 (by rfl) w4.heap.size 39 i0 _ 5 40 Try.underlying22 hi hz0 hz1 hz2 rfl (by decide) (.slice (some ⟨w4.heap.size, 0, none⟩) 0 0) 0 [] (by rfl) (row0 (hp_drew (hp_new w4 _)) (by omega)) a n c (L.flatMap cellsW) (by rfl) (by rw [flat_len (c := cellsW) (m := 5) cellsW_len, N1.out]) HZ.out (by rintro ad rfl; exact ws_src (NW.out.below ((bl_alloc (Below.refl _ _) _).drew))) (flat_one L) (by unfold maxLen; omega) (by omega) (by simp <;> omega) ?_; intro v5 w7 hown7 hg7; rw [Nat.zero_add, List.nil_append] at hown7; have bl7 : Below w4.heap.size w4 w7 := (bl_alloc (Below.refl w4.heap.size w4) (.cells #[] 39)).drew.grown hg7 (by simp <;> omega) (fun j e => by simp [Value.ownBlock] at e; omega); have M7 := Lib.hid (M4.out.below bl7); have q0 : w7.cell? ⟨w.heap.size, 0, none⟩ = some (.int .i64 x.fr) := cell_of (i := 0) M7.out.xc rfl; have q1 : w7.cell? ⟨w.heap.size, 1, none⟩ = some (.int .i64 x.to) := cell_of (i := 1) M7.out.xc rfl; have q2 : w7.cell? ⟨w.heap.size, 2, none⟩ = some (.int .i64 x.st) := cell_of (i := 2) M7.out.xc rfl; have q3 : w7.cell? ⟨w.heap.size, 3, none⟩ = some (.int .i64 x.va) := cell_of (i := 3) M7.out.xc rfl; have q4 : w7.cell? ⟨w.heap.size, 4, none⟩ = some (.int .i64 x.co) := cell_of (i := 4) M7.out.xc rfl; have lq := lt_of_obj M7.out.xc; replace bl7 := Lib.hid bl7; replace hown7 := Lib.hid hown7; clear hg7)
            | (refine step_append_any _ (by rfl) _ _ 22 (by rfl) w4.heap.size 39 i0 _ 5 40 Try.underlying22 hi hz0 hz1 hz2 rfl (by decide) (.slice (some ⟨w4.heap.size, 0, none⟩) 0 0) 0 [] (by rfl) (row0 (hp_drew (hp_old (hp_new w4 _) _)) (by omega)) a n c (L.flatMap cellsW) (by rfl) (by rw [flat_len (c := cellsW) (m := 5) cellsW_len, N1.out]) HZ.out (by rintro ad rfl; exact ws_src (NW.out.below ((bl_alloc (bl_alloc (Below.refl _ _) _) _).drew))) (flat_one L) (by unfold maxLen; omega) (by omega) (by simp <;> omega) ?_; intro v5 w7 hown7 hg7; rw [Nat.zero_add, List.nil_append] at hown7; have bl7 : Below w4.heap.size w4 w7 := (bl_alloc (bl_alloc (Below.refl w4.heap.size w4) (.cells #[] 39)) (CX x)).drew.grown hg7 (by simp <;> omega) (fun j e => by simp [Value.ownBlock] at e; omega); have NB : Hid (w7.heap[w4.heap.size + 1]? = some (CX x)) := Lib.hid ((hg7.block (w4.heap.size + 1) (by simp <;> omega) (by simp [Value.ownBlock] <;> omega)).trans (hp_drew (hp_eq (by simp)))); have M7 := Lib.hid (M4.out.below bl7); have q0 : w7.cell? ⟨w.heap.size, 0, none⟩ = some (.int .i64 x.fr) := cell_of (i := 0) M7.out.xc rfl; have q1 : w7.cell? ⟨w.heap.size, 1, none⟩ = some (.int .i64 x.to) := cell_of (i := 1) M7.out.xc rfl; have q2 : w7.cell? ⟨w.heap.size, 2, none⟩ = some (.int .i64 x.st) := cell_of (i := 2) M7.out.xc rfl; have q3 : w7.cell? ⟨w.heap.size, 3, none⟩ = some (.int .i64 x.va) := cell_of (i := 3) M7.out.xc rfl; have q4 : w7.cell? ⟨w.heap.size, 4, none⟩ = some (.int .i64 x.co) := cell_of (i := 4) M7.out.xc rfl; have lq := lt_of_obj M7.out.xc; replace bl7 := Lib.hid bl7; replace hown7 := Lib.hid hown7; clear hg7)
            | (refine step_append_any _ (by rfl) _ _ 22 (by rfl) w4.heap.size 39 i0 _ 5 40 Try.underlying22 hi hz0 hz1 hz2 rfl (by decide) (.slice (some ⟨w4.heap.size + 1, 0, none⟩) 0 0) 0 [] (by rfl) (row0 (hp_drew (hp_eq (by simp))) (by omega)) a n c (L.flatMap cellsW) (by rfl) (by rw [flat_len (c := cellsW) (m := 5) cellsW_len, N1.out]) HZ.out (by rintro ad rfl; exact ws_src (NW.out.below ((bl_alloc (bl_alloc (Below.refl _ _) _) _).drew))) (flat_one L) (by unfold maxLen; omega) (by omega) (by simp <;> omega) ?_; intro v5 w7 hown7 hg7; rw [Nat.zero_add, List.nil_append] at hown7; have bl7 : Below w4.heap.size w4 w7 := (bl_alloc (bl_alloc (Below.refl w4.heap.size w4) (CX x)) (.cells #[] 39)).drew.grown hg7 (by simp <;> omega) (fun j e => by simp [Value.ownBlock] at e; omega); have NB : Hid (w7.heap[w4.heap.size]? = some (CX x)) := Lib.hid ((hg7.block w4.heap.size (by simp <;> omega) (by simp [Value.ownBlock] <;> omega)).trans (hp_drew (hp_old (hp_new w4 _) _))); have M7 := Lib.hid (M4.out.below bl7); have q0 : w7.cell? ⟨w.heap.size, 0, none⟩ = some (.int .i64 x.fr) := cell_of (i := 0) M7.out.xc rfl; have q1 : w7.cell? ⟨w.heap.size, 1, none⟩ = some (.int .i64 x.to) := cell_of (i := 1) M7.out.xc rfl; have q2 : w7.cell? ⟨w.heap.size, 2, none⟩ = some (.int .i64 x.st) := cell_of (i := 2) M7.out.xc rfl; have q3 : w7.cell? ⟨w.heap.size, 3, none⟩ = some (.int .i64 x.va) := cell_of (i := 3) M7.out.xc rfl; have q4 : w7.cell? ⟨w.heap.size, 4, none⟩ = some (.int .i64 x.co) := cell_of (i := 4) M7.out.xc rfl; have lq := lt_of_obj M7.out.xc; replace bl7 := Lib.hid bl7; replace hown7 := Lib.hid hown7; clear hg7)
            | (refine step_append_any _ (by rfl) _ _ 22 (by rfl) w4.heap.size 39 i0 _ 5 40 Try.underlying22 hi hz0 hz1 hz2 rfl (by decide) v5 n (L.flatMap cellsW) (by rfl) (hown7.out.alloc _) (some ⟨w7.heap.size, 0, none⟩) 1 1 (cellsW x) (by rfl) rfl (fun e => by cases e) (by rintro ad e; cases e; exact World.news_of_block (cs := #[.int .i64 x.fr, .int .i64 x.to, .int .i64 x.st, .int .i64 x.va, .int .i64 x.co]) (t := 39) (fr := (0, 0)) (hp_new w7 _)) (by simp [cellsW, Value.oneCell']) (by unfold maxLen; omega) (by omega) (by have := bl7.out.size; simp at this ⊢; omega) ?_; intro v8 w8 hown8 hg8; have FIN : Hid (w8.ownsRow w4.heap.size 39 5 v8 (n + 1) (L.flatMap cellsW ++ cellsW x) ∧ Below w4.heap.size w4 w8) := Lib.hid ⟨hown8, (bl_alloc bl7.out (CX x)).grown hg8 (bl_alloc bl7.out (CX x)).size (fun j e => ((hown7.out.alloc (CX x)).lt j e).1)⟩; clear hg8 hown8)
            | (refine step_append_any _ (by rfl) _ _ 22 (by rfl) w4.heap.size 39 i0 _ 5 40 Try.underlying22 hi hz0 hz1 hz2 rfl (by decide) v5 n (L.flatMap cellsW) (by rfl) hown7.out (some ⟨w4.heap.size + 1, 0, none⟩) 1 1 (cellsW x) (by rfl) rfl (fun e => by cases e) (by rintro ad e; cases e; exact World.news_of_block (cs := #[.int .i64 x.fr, .int .i64 x.to, .int .i64 x.st, .int .i64 x.va, .int .i64 x.co]) (t := 39) (fr := (0, 0)) NB.out) (by simp [cellsW, Value.oneCell']) (by unfold maxLen; omega) (by omega) (by have := bl7.out.size; simp at this ⊢; omega) ?_; intro v8 w8 hown8 hg8; have FIN : Hid (w8.ownsRow w4.heap.size 39 5 v8 (n + 1) (L.flatMap cellsW ++ cellsW x) ∧ Below w4.heap.size w4 w8) := Lib.hid ⟨hown8, bl7.out.grown hg8 bl7.out.size (fun j e => (hown7.out.lt j e).1)⟩; clear hg8 hown8)
            | (refine step_append_any _ (by rfl) _ _ 22 (by rfl) w4.heap.size 39 i0 _ 5 40 Try.underlying22 hi hz0 hz1 hz2 rfl (by decide) v5 n (L.flatMap cellsW) (by rfl) hown7.out (some ⟨w4.heap.size, 0, none⟩) 1 1 (cellsW x) (by rfl) rfl (fun e => by cases e) (by rintro ad e; cases e; exact World.news_of_block (cs := #[.int .i64 x.fr, .int .i64 x.to, .int .i64 x.st, .int .i64 x.va, .int .i64 x.co]) (t := 39) (fr := (0, 0)) NB.out) (by simp [cellsW, Value.oneCell']) (by unfold maxLen; omega) (by omega) (by have := bl7.out.size; simp at this ⊢; omega) ?_; intro v8 w8 hown8 hg8; have FIN : Hid (w8.ownsRow w4.heap.size 39 5 v8 (n + 1) (L.flatMap cellsW ++ cellsW x) ∧ Below w4.heap.size w4 w8) := Lib.hid ⟨hown8, bl7.out.grown hg8 bl7.out.size (fun j e => (hown7.out.lt j e).1)⟩; clear hg8 hown8))
          all_goals (try go_wp2_with (fail))
          all_goals go_meet
          all_goals exact FIN.out
        case rest =>
          obtain ⟨hown, hbl⟩ := hcut
          rw [← ws_snoc] at hown
          obtain ⟨a5, c5, rfl, hWS5⟩ := own_ws hown
          have W5 := Lib.hid hWS5
          have M5 := Lib.hid (M4.out.below hbl)
          clear hown hbl hWS5 x0 x1 x2 x3 x4 lx M4 NW
          have y0 : wc.cell? ⟨p7, 0, none⟩ = some (.int .i64 g) := cell_of (i := 0) M5.out.c7 rfl
          have y1 : wc.cell? ⟨p7, 1, none⟩ = some (.int .i64 b) := cell_of (i := 1) M5.out.c7 rfl
          have y2 : wc.cell? ⟨p7, 2, none⟩ = some (.int .i64 m) := cell_of (i := 2) M5.out.c7 rfl
          have l7 := lt_of_obj M5.out.c7
          cases T3 with
          | false =>
            go_wp2_with (fail)
            refine (VM.out _ _ _ _ W5.out).mono ?_
            rintro e w6 ⟨rfl, b6⟩
            have M6 := Lib.hid (M5.out.below b6)
            have W6 := Lib.hid (W5.out.below b6)
            clear b6 y0 y1 y2 l7
            go_wp2_with (fail)
            refine (awake_any _).mono ?_
            rintro e w8 ⟨rfl, b8⟩
            have E8 := Lib.hid (M6.out.below b8).bl
            clear b8
            go_wp2_with (fail)
            go_ret
            exact ⟨rfl, E8.out⟩
          | true =>
            have leM := MO1.out hT3.out.symm
            have BM := Lib.hid (fun W a' n' c' (h : WS W a' n' c' (L ++ [x])) => bestl_any h hT3.out.symm)
            generalize value (wl (L ++ [x])) (bestp (wl (L ++ [x])) (L ++ [x]).length g b m) = vk at BM leM
            generalize bestp (wl (L ++ [x])) (L ++ [x]).length g b m = pk at BM
            have dM : decide (va ≤ vk) = true := by simpa using leM
            clear leM
            go_wp2_with (fail)
            refine (VM.out _ _ _ _ W5.out).mono ?_
            rintro e w6 ⟨rfl, b6⟩
            have M6 := Lib.hid (M5.out.below b6)
            have W6 := Lib.hid (W5.out.below b6)
            clear b6 y0 y1 y2 l7
            have y0 : w6.cell? ⟨p7, 0, none⟩ = some (.int .i64 g) := cell_of (i := 0) M6.out.c7 rfl
            have y1 : w6.cell? ⟨p7, 1, none⟩ = some (.int .i64 b) := cell_of (i := 1) M6.out.c7 rfl
            have y2 : w6.cell? ⟨p7, 2, none⟩ = some (.int .i64 m) := cell_of (i := 2) M6.out.c7 rfl
            have l7 := lt_of_obj M6.out.c7
            go_wp2_with (fail)
            refine (BM.out _ _ _ _ W6.out).mono ?_
            rintro e w7 ⟨a7, c7, rfl, _, b7⟩
            have M7 := Lib.hid (M6.out.below b7)
            clear b7 BM y0 y1 y2 l7
            go_wp2_with (fail)
            refine (awake_any _).mono ?_
            rintro e w8 ⟨rfl, b8⟩
            have E8 := Lib.hid (M7.out.below b8).bl
            clear b8
            go_wp2_with (fail)
            go_ret
            exact ⟨rfl, E8.out⟩
theorem PassesMore_walk (a0 : Value) (a1_0 : Int) (a1_1 : Int) (a1_2 : Int) (a1_3 : Int) (a1_4 : Int) (a2_0 : Int) (a2_1 : Int) (a2_2 : Int) (a2_3 : Int) (a2_4 : Int) (a2_5 : Int) (w : World) (w0 : Kit.SlIn [.inl .i64, .inl .i64, .inl .i64, .inl .i64, .inl .i64] w a0) (w1_0 : (Lit.int .i64 a1_0).wf = true) (w1_1 : (Lit.int .i64 a1_1).wf = true) (w1_2 : (Lit.int .i64 a1_2).wf = true) (w1_3 : (Lit.int .i64 a1_3).wf = true) (w1_4 : (Lit.int .i64 a1_4).wf = true) (w2_0 : (Lit.int .i64 a2_0).wf = true) (w2_1 : (Lit.int .i64 a2_1).wf = true) (w2_2 : (Lit.int .i64 a2_2).wf = true) (w2_3 : (Lit.int .i64 a2_3).wf = true) (w2_4 : (Lit.int .i64 a2_4).wf = true) (w2_5 : (Lit.int .i64 a2_5).wf = true) :
    Calls Try.prog 6 #[a0, .agg #[.int .i64 a1_0, .int .i64 a1_1, .int .i64 a1_2, .int .i64 a1_3, .int .i64 a1_4], .agg #[.int .i64 a2_0, .int .i64 a2_1, .int .i64 a2_2, .int .i64 a2_3, .int .i64 a2_4, .int .i64 a2_5]] w fun e w' => e = .returned (.bool true) ∧ Below w.heap.size w w' := by
  obtain ⟨a, n, c, L, rfl, hW, hz⟩ := slIn_ws w0
  exact more_walk a n c L ⟨a1_0, a1_1, a1_2, a1_3, a1_4⟩ a2_0 a2_1 a2_2 a2_3 a2_4 a2_5 w hW hz
end Go.Proofs.Ytacdigofjlbimaa
