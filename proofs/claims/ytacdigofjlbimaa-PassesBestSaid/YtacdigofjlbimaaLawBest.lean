/-
  The walk of the law PassesBest. Conditions: none beyond arguments that can be read.
-/
import Derived.Test.YtacdigofjlbimaaRbest
namespace Go.Proofs.Ytacdigofjlbimaa
open Go.RowKit Kit
set_option linter.unusedVariables false
theorem nil_ns (w : World) : NS w none 0 0 [] := ⟨rfl, Nat.le_refl _, by simp [maxLen], fun i hi => by omega⟩
set_option maxRecDepth 100000 in
set_option maxHeartbeats 1600000 in
theorem PassesBest_walk (a0 : Value) (a1_0 : Int) (a1_1 : Int) (a1_2 : Int) (w : World) (w0 : Kit.SlIn [.inl .i64, .inl .i64, .inl .i64, .inl .i64, .inl .i64] w a0) (w1_0 : (Lit.int .i64 a1_0).wf = true) (w1_1 : (Lit.int .i64 a1_1).wf = true) (w1_2 : (Lit.int .i64 a1_2).wf = true) :
    Calls Try.prog 3 #[a0, .agg #[.int .i64 a1_0, .int .i64 a1_1, .int .i64 a1_2]] w fun e w' => e = .returned (.bool true) ∧ Below w.heap.size w w' := by
  obtain ⟨a, n, c, L, rfl, hW, hz⟩ := slIn_ws w0
  clear w0 w1_0 w1_1 w1_2 hz
  have HW := Lib.hid hW
  have hcap := hW.2.1
  have hcap2 := hW.2.2.1
  unfold maxLen at hcap2
  have N1 := Lib.hid hW.1
  obtain ⟨g, hg⟩ : ∃ g, g = a1_0 := ⟨_, rfl⟩
  obtain ⟨b, hb⟩ : ∃ b, b = a1_1 := ⟨_, rfl⟩
  obtain ⟨m, hm⟩ : ∃ m, m = a1_2 := ⟨_, rfl⟩
  rw [← hg, ← hb, ← hm]
  clear hg hb hm hW
  have B0 := Lib.hid (bl_alloc (Below.refl w.heap.size w) (.cells #[.int .i64 g, .int .i64 b, .int .i64 m] 24))
  have O0 := Lib.hid (hp_new w (.cells #[.int .i64 g, .int .i64 b, .int .i64 m] 24))
  have C0 := Lib.hid (rcheck_any L g b m a n c _ (HW.out.below B0.out))
  by_cases hE : ckE L g b m = 0
  · have BO := Lib.hid (fun W h => best_ok (L := L) (g := g) (b := b) (m := m) (a := a) (n := n) (c := c) (w := W) hE h)
    have RO := Lib.hid (fun W h => best12ok (L := L) (g := g) (b := b) (m := m) (a := a) (n := n) (c := c) (w := W) hE h)
    have L2 : Hid ((bestp (wl L) L.length g b m).length ≤ 100000) := Lib.hid (Nat.le_trans (best_chk hE).2.2.2.2 (by decide))
    rw [hE] at C0
    clear hE
    generalize bestp (wl L) L.length g b m = P at BO RO L2
    by_cases h10 : 10 < n
    · have d10 : decide ((10 : Int) < (n : Int)) = true := by simp; omega
      have d10b : decide (10 < n) = true := by simpa using h10
      go_enter Try.func3, Try.ntmps3
      go_wp2_with (fail)
      refine C0.out.mono ?_
      rintro e w1 ⟨rfl, b1⟩
      have B1 := Lib.hid (bl_go B0.out b1 (by simp))
      have O1 := Lib.hid (below_keeps b1 O0.out (by simp))
      clear b1
      have r0 : w1.cell? ⟨w.heap.size, 0, none⟩ = some (.int .i64 g) := cell_of O1.out rfl
      have r1 : w1.cell? ⟨w.heap.size, 1, none⟩ = some (.int .i64 b) := cell_of O1.out rfl
      have r2 : w1.cell? ⟨w.heap.size, 2, none⟩ = some (.int .i64 m) := cell_of O1.out rfl
      have rl := lt_of_obj O1.out
      go_wp2_with (fail)
      refine (awake_any _).mono ?_
      rintro e w2 ⟨rfl, b2⟩
      have B2 := Lib.hid (bl_step B1.out b2)
      have O2 := Lib.hid (below_keeps b2 O1.out (lt_of_obj O1.out))
      clear b2
      go_wp2_with (fail)
      go_ret
      exact ⟨rfl, B2.out⟩
    · have d10 : decide ((10 : Int) < (n : Int)) = false := by simp; omega
      have d10b : decide (10 < n) = false := by simpa using h10
      have d60 : decide ((60 : Int) < (n : Int)) = false := by simp; omega
      have d60b : decide (60 < n) = false := by simp; omega
      go_enter Try.func3, Try.ntmps3
      go_wp2_with (fail)
      refine (BO.out _ (HW.out.below B0.out)).mono ?_
      rintro e w2 ⟨a2, c2, rfl, n2, b2⟩
      have N2 := Lib.hid n2
      have B2 := Lib.hid (bl_go B0.out b2 (by simp))
      have O2 := Lib.hid (below_keeps b2 O0.out (by simp))
      clear b2 n2 
      have r0 : w2.cell? ⟨w.heap.size, 0, none⟩ = some (.int .i64 g) := cell_of O2.out rfl
      have r1 : w2.cell? ⟨w.heap.size, 1, none⟩ = some (.int .i64 b) := cell_of O2.out rfl
      have r2 : w2.cell? ⟨w.heap.size, 2, none⟩ = some (.int .i64 m) := cell_of O2.out rfl
      have rl := lt_of_obj O2.out
      go_wp2_with (fail)
      refine (RO.out _ (HW.out.below B2.out)).mono ?_
      rintro e w3 ⟨v3, rfl, p3, b3⟩
      obtain ⟨a3, n3, c3, rfl, N3, _⟩ := p3
      have N3 := Lib.hid N3
      have N2 := Lib.hid (N2.out.below b3)
      have l3 : n3 ≤ 100000 := by
        have h1 := N3.out.1
        have h2 := N2.out.1
        rw [h1, ← h2]
        exact L2.out
      have B3 := Lib.hid (bl_step B2.out b3)
      have O3 := Lib.hid (below_keeps b3 O2.out (lt_of_obj O2.out))
      clear b3 r0 r1 r2 rl
      go_wp2_with (fail)
      refine (sameints_any _ _ _ _ _ _ _ _ _ N2.out N3.out L2.out l3).mono ?_
      rintro e w4 ⟨rfl, q, rfl⟩
      rw [decide_eq_true (rfl : zs P = zs P)]
      have B4 : Hid (Below w.heap.size w (w3.drewN q)) := Lib.hid (below_drewN B3.out q)
      have O4 : Hid ((w3.drewN q).heap[w.heap.size]? = some (.cells #[.int .i64 g, .int .i64 b, .int .i64 m] 24)) := Lib.hid O3.out
      go_wp2_with (fail)
      refine (awake_any _).mono ?_
      rintro e w5 ⟨rfl, b5⟩
      have B5 := Lib.hid (bl_step B4.out b5)
      have O5 := Lib.hid (below_keeps b5 O4.out (lt_of_obj O4.out))
      clear b5
      go_wp2_with (fail)
      go_ret
      exact ⟨rfl, B5.out⟩
  · have BE := Lib.hid (fun W h => best_err (L := L) (g := g) (b := b) (m := m) (a := a) (n := n) (c := c) (w := W) hE h)
    have RE := Lib.hid (fun W h => best12err (L := L) (g := g) (b := b) (m := m) (a := a) (n := n) (c := c) (w := W) hE h)
    generalize ckE L g b m = E at hE BE RE C0
    have hb : (E == 0) = false := by simpa using hE
    clear hE
    by_cases h10 : 10 < n
    · have d10 : decide ((10 : Int) < (n : Int)) = true := by simp; omega
      have d10b : decide (10 < n) = true := by simpa using h10
      by_cases h60 : 60 < n
      · have d60 : decide ((60 : Int) < (n : Int)) = true := by simp; omega
        have d60b : decide (60 < n) = true := by simpa using h60
        go_enter Try.func3, Try.ntmps3
        go_wp2_with (fail)
        refine C0.out.mono ?_
        rintro e w1 ⟨rfl, b1⟩
        have B1 := Lib.hid (bl_go B0.out b1 (by simp))
        have O1 := Lib.hid (below_keeps b1 O0.out (by simp))
        clear b1
        have r0 : w1.cell? ⟨w.heap.size, 0, none⟩ = some (.int .i64 g) := cell_of O1.out rfl
        have r1 : w1.cell? ⟨w.heap.size, 1, none⟩ = some (.int .i64 b) := cell_of O1.out rfl
        have r2 : w1.cell? ⟨w.heap.size, 2, none⟩ = some (.int .i64 m) := cell_of O1.out rfl
        have rl := lt_of_obj O1.out
        go_wp2_with (fail)
        refine (awake_any _).mono ?_
        rintro e w2 ⟨rfl, b2⟩
        have B2 := Lib.hid (bl_step B1.out b2)
        have O2 := Lib.hid (below_keeps b2 O1.out (lt_of_obj O1.out))
        clear b2
        go_wp2_with (fail)
        go_ret
        exact ⟨rfl, B2.out⟩
      · have d60 : decide ((60 : Int) < (n : Int)) = false := by simp; omega
        have d60b : decide (60 < n) = false := by simp; omega
        go_enter Try.func3, Try.ntmps3
        go_wp2_with (fail)
        refine C0.out.mono ?_
        rintro e w1 ⟨rfl, b1⟩
        have B1 := Lib.hid (bl_go B0.out b1 (by simp))
        have O1 := Lib.hid (below_keeps b1 O0.out (by simp))
        clear b1
        have r0 : w1.cell? ⟨w.heap.size, 0, none⟩ = some (.int .i64 g) := cell_of O1.out rfl
        have r1 : w1.cell? ⟨w.heap.size, 1, none⟩ = some (.int .i64 b) := cell_of O1.out rfl
        have r2 : w1.cell? ⟨w.heap.size, 2, none⟩ = some (.int .i64 m) := cell_of O1.out rfl
        have rl := lt_of_obj O1.out
        go_wp2_with (fail)
        refine (BE.out _ (HW.out.below B1.out)).mono ?_
        rintro e w2 ⟨rfl, b2⟩
        have B2 := Lib.hid (bl_step B1.out b2)
        have O2 := Lib.hid (below_keeps b2 O1.out (lt_of_obj O1.out))
        clear b2 r0 r1 r2 rl
        have r0 : w2.cell? ⟨w.heap.size, 0, none⟩ = some (.int .i64 g) := cell_of O2.out rfl
        have r1 : w2.cell? ⟨w.heap.size, 1, none⟩ = some (.int .i64 b) := cell_of O2.out rfl
        have r2 : w2.cell? ⟨w.heap.size, 2, none⟩ = some (.int .i64 m) := cell_of O2.out rfl
        have rl := lt_of_obj O2.out
        go_wp2_with (fail)
        refine (RE.out _ (HW.out.below B2.out)).mono ?_
        rintro e w3 ⟨rfl, b3⟩
        have B3 := Lib.hid (bl_step B2.out b3)
        have O3 := Lib.hid (below_keeps b3 O2.out (lt_of_obj O2.out))
        clear b3 r0 r1 r2 rl
        go_wp2_with (fail)
        refine (sameints_any [] [] none none 0 0 0 0 _ (nil_ns _) (nil_ns _) (by decide) (by decide)).mono ?_
        rintro e w4 ⟨rfl, q, rfl⟩
        rw [decide_eq_true (rfl : ([] : List Int) = [])]
        have B4 : Hid (Below w.heap.size w (w3.drewN q)) := Lib.hid (below_drewN B3.out q)
        have O4 : Hid ((w3.drewN q).heap[w.heap.size]? = some (.cells #[.int .i64 g, .int .i64 b, .int .i64 m] 24)) := Lib.hid O3.out
        go_wp2_with (fail)
        refine (awake_any _).mono ?_
        rintro e w5 ⟨rfl, b5⟩
        have B5 := Lib.hid (bl_step B4.out b5)
        have O5 := Lib.hid (below_keeps b5 O4.out (lt_of_obj O4.out))
        clear b5
        go_wp2_with (fail)
        go_ret
        exact ⟨rfl, B5.out⟩
    · have d10 : decide ((10 : Int) < (n : Int)) = false := by simp; omega
      have d10b : decide (10 < n) = false := by simpa using h10
      have d60 : decide ((60 : Int) < (n : Int)) = false := by simp; omega
      have d60b : decide (60 < n) = false := by simp; omega
      go_enter Try.func3, Try.ntmps3
      go_wp2_with (fail)
      refine (BE.out _ (HW.out.below B0.out)).mono ?_
      rintro e w2 ⟨rfl, b2⟩
      have B2 := Lib.hid (bl_go B0.out b2 (by simp))
      have O2 := Lib.hid (below_keeps b2 O0.out (by simp))
      clear b2 
      have r0 : w2.cell? ⟨w.heap.size, 0, none⟩ = some (.int .i64 g) := cell_of O2.out rfl
      have r1 : w2.cell? ⟨w.heap.size, 1, none⟩ = some (.int .i64 b) := cell_of O2.out rfl
      have r2 : w2.cell? ⟨w.heap.size, 2, none⟩ = some (.int .i64 m) := cell_of O2.out rfl
      have rl := lt_of_obj O2.out
      go_wp2_with (fail)
      refine (RE.out _ (HW.out.below B2.out)).mono ?_
      rintro e w3 ⟨rfl, b3⟩
      have B3 := Lib.hid (bl_step B2.out b3)
      have O3 := Lib.hid (below_keeps b3 O2.out (lt_of_obj O2.out))
      clear b3 r0 r1 r2 rl
      go_wp2_with (fail)
      refine (sameints_any [] [] none none 0 0 0 0 _ (nil_ns _) (nil_ns _) (by decide) (by decide)).mono ?_
      rintro e w4 ⟨rfl, q, rfl⟩
      rw [decide_eq_true (rfl : ([] : List Int) = [])]
      have B4 : Hid (Below w.heap.size w (w3.drewN q)) := Lib.hid (below_drewN B3.out q)
      have O4 : Hid ((w3.drewN q).heap[w.heap.size]? = some (.cells #[.int .i64 g, .int .i64 b, .int .i64 m] 24)) := Lib.hid O3.out
      go_wp2_with (fail)
      refine (awake_any _).mono ?_
      rintro e w5 ⟨rfl, b5⟩
      have B5 := Lib.hid (bl_step B4.out b5)
      have O5 := Lib.hid (below_keeps b5 O4.out (lt_of_obj O4.out))
      clear b5
      go_wp2_with (fail)
      go_ret
      exact ⟨rfl, B5.out⟩
end Go.Proofs.Ytacdigofjlbimaa
