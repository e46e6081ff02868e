/-
  The walk of the law WheelsLeast: no other speed of wheel 3 is better. Conditions: none.
-/
import Derived.Test.YtcmmjikkoebboaaAwake
namespace Go.Proofs.Ytcmmjikkoebboaa
open Go.RowKit Kit
set_option linter.unusedVariables false
theorem wf64 {a : Int} (h : (Lit.int .i64 a).wf = true) : -9223372036854775808 ≤ a ∧ a ≤ 9223372036854775807 := by
  simpa [Lit.wf, IntKind.min, IntKind.max, IntKind.signed, IntKind.bits] using h
theorem absI_le {a n : Int} : absI a ≤ n ↔ -n ≤ a ∧ a ≤ n := by unfold absI; omega
theorem great_le {a b c d n : Int} : great a b c d ≤ n ↔ absI a ≤ n ∧ absI b ≤ n ∧ absI c ≤ n ∧ absI d ≤ n := by unfold great; omega
theorem absI_bd (a n : Int) (h : -n ≤ a ∧ a ≤ n) : 0 ≤ absI a ∧ absI a ≤ n := by unfold absI; omega
/-- The plain law: no other speed of wheel 3 is better. -/
theorem least_plain (d0 d1 d2 z : Int) (q : Int) (hq : q = (max (max (max d0 d1) d2) 0 + min (min (min d0 d1) d2) 0) / 2) :
    great (d0 - q) (d1 - q) (d2 - q) q ≤ great (d0 - z) (d1 - z) (d2 - z) z := by
  have key : ∀ hi lo m : Int, 0 ≤ hi → lo ≤ 0 → hi - z ≤ m → -(m) ≤ hi - z → lo - z ≤ m → -(m) ≤ lo - z → (hi - (hi + lo) / 2 ≤ m ∧ -(m) ≤ lo - (hi + lo) / 2) := by
    intro hi lo m h1 h2 h3 h4 h5 h6; omega
  generalize hm : great (d0 - z) (d1 - z) (d2 - z) z = m
  have hm' : great (d0 - z) (d1 - z) (d2 - z) z ≤ m := by omega
  rw [great_le] at hm' ⊢
  simp only [absI_le] at hm' ⊢
  obtain ⟨⟨a1, a2⟩, ⟨b1, b2⟩, ⟨c1, c2⟩, ⟨e1, e2⟩⟩ := hm'
  have hhi : ∃ hi, hi = max (max (max d0 d1) d2) 0 := ⟨_, rfl⟩
  have hlo : ∃ lo, lo = min (min (min d0 d1) d2) 0 := ⟨_, rfl⟩
  obtain ⟨hi, hhi⟩ := hhi
  obtain ⟨lo, hlo⟩ := hlo
  rw [← hhi, ← hlo] at hq
  have k1 : hi - z ≤ m ∧ -m ≤ hi - z := by omega
  have k2 : lo - z ≤ m ∧ -m ≤ lo - z := by omega
  have k3 : d0 ≤ hi ∧ d1 ≤ hi ∧ d2 ≤ hi ∧ 0 ≤ hi ∧ lo ≤ d0 ∧ lo ≤ d1 ∧ lo ≤ d2 ∧ lo ≤ 0 := by omega
  have := key hi lo m k3.2.2.2.1 k3.2.2.2.2.2.2.2 k1.1 k1.2 k2.1 k2.2
  clear key hhi hlo k1 k2 hm a1 a2 b1 b2 c1 c2 e1 e2
  omega
theorem allocV_good {d0 d1 d2 f : Int} (h1 : vld d0 d1 d2 = true) (h2 : isB f = true) :
    allocV d0 d1 d2 f = .tuple #[.agg #[.int .i64 (d0 - zOf d0 d1 d2 f), .int .i64 (d1 - zOf d0 d1 d2 f), .int .i64 (d2 - zOf d0 d1 d2 f), .int .i64 (zOf d0 d1 d2 f)], .int .i64 0] := by
  unfold allocV; simp [h1, h2, four]
set_option maxHeartbeats 800000 in
theorem least_bad (a0_0 : Int) (a0_1 : Int) (a0_2 : Int) (a1 : Int) (a2 : Int) (w : World) (h : a1 < -1 ∨ 3 < a1 ∨ vld a0_0 a0_1 a0_2 = false ∨ a2 < -4398046511104 ∨ 4398046511104 < a2) :
    Calls Try.prog 4 #[.agg #[.int .i64 a0_0, .int .i64 a0_1, .int .i64 a0_2], .int .i64 a1, .int .i64 a2] w fun e w' => e = .returned (.bool true) ∧ Below w.heap.size w w' := by
  have arm : True := trivial
  by_cases h1 : a1 < -1
  · clear h
    go_enter Try.func4, Try.ntmps4
    go_wp2_with (first | ((with_reducible refine (lawvalid_any _ _ _ _).mono ?_); rintro e w1 ⟨rfl, hb1⟩) | ((with_reducible refine (awake_any _).mono ?_); rintro e w2 ⟨rfl, hb2⟩))
    go_ret
    exact ⟨rfl, bl_step (bl_alloc (Below.refl _ _) _) hb2⟩
  · by_cases h2 : 3 < a1
    · clear h
      go_enter Try.func4, Try.ntmps4
      go_wp2_with (first | ((with_reducible refine (lawvalid_any _ _ _ _).mono ?_); rintro e w1 ⟨rfl, hb1⟩) | ((with_reducible refine (awake_any _).mono ?_); rintro e w2 ⟨rfl, hb2⟩))
      go_ret
      exact ⟨rfl, bl_step (bl_alloc (Below.refl _ _) _) hb2⟩
    · cases h3 : vld a0_0 a0_1 a0_2
      · clear h
        go_enter Try.func4, Try.ntmps4
        go_wp2_with (first | ((with_reducible refine (lawvalid_any _ _ _ _).mono ?_); rintro e w1 ⟨rfl, hb1⟩) | ((with_reducible refine (awake_any _).mono ?_); rintro e w2 ⟨rfl, hb2⟩))
        go_ret
        exact ⟨rfl, bl_step (bl_step (bl_alloc (Below.refl _ _) _) hb1) hb2⟩
      · by_cases h4 : a2 < -4398046511104
        · clear h
          go_enter Try.func4, Try.ntmps4
          go_wp2_with (first | ((with_reducible refine (lawvalid_any _ _ _ _).mono ?_); rintro e w1 ⟨rfl, hb1⟩) | ((with_reducible refine (awake_any _).mono ?_); rintro e w2 ⟨rfl, hb2⟩))
          go_ret
          exact ⟨rfl, bl_step (bl_step (bl_alloc (Below.refl _ _) _) hb1) hb2⟩
        · have h5 : 4398046511104 < a2 := by simp [h3] at h; omega
          clear h
          go_enter Try.func4, Try.ntmps4
          go_wp2_with (first | ((with_reducible refine (lawvalid_any _ _ _ _).mono ?_); rintro e w1 ⟨rfl, hb1⟩) | ((with_reducible refine (awake_any _).mono ?_); rintro e w2 ⟨rfl, hb2⟩))
          go_ret
          exact ⟨rfl, bl_step (bl_step (bl_alloc (Below.refl _ _) _) hb1) hb2⟩
set_option maxHeartbeats 1600000 in
theorem least_f (d0 d1 d2 f z : Int) (w : World) (h3 : vld d0 d1 d2 = true) (hf : f = 0 ∨ f = 1 ∨ f = 2 ∨ f = 3) (z1 : -4398046511104 ≤ z) (z2 : z ≤ 4398046511104) :
    Calls Try.prog 4 #[.agg #[.int .i64 d0, .int .i64 d1, .int .i64 d2], .int .i64 f, .int .i64 z] w fun e w' => e = .returned (.bool true) ∧ Below w.heap.size w w' := by
  obtain ⟨b1, b2, b3, b4, b5, b6⟩ := vld_bd h3
  have H3 := Lib.hid h3
  have h2 : isB f = true := by unfold isB; rcases hf with rfl | rfl | rfl | rfl <;> rfl
  rcases hf with rfl | rfl | rfl | rfl
  all_goals
    have HV := allocV_good H3.out h2
    simp only [zOf] at HV
    simp at HV
    have HA := Lib.hid HV; clear HV
    go_enter Try.func4, Try.ntmps4
    go_wp2_with (fail)
    refine (lawvalid_any _ _ _ _).mono ?_
    rintro e w1 ⟨rfl, hb1⟩
    obtain ⟨hc1, hf1⟩ := bcell hb1
    have hz1 := hb1.size
    simp only [World.size_alloc] at hz1 hc1 hf1
    have B1 := Lib.hid hb1; clear hb1
    have q1 : w.heap.size < w1.heap.size := by omega
    go_wp2_with (fail)
    refine (alloc_any _ _ _ _ _).mono ?_
    rw [HA.out]
    rintro e w2 ⟨rfl, hb2⟩
    obtain ⟨hc2, hf2⟩ := bcell hb2
    have hz2 := hb2.size
    have B2 := Lib.hid hb2; clear hb2
    have q2 : w.heap.size < w2.heap.size := by omega
    go_wp2_with (fail)
    refine (awake_any _).mono ?_
    rintro e w3 ⟨rfl, hb3⟩
    go_wp2_with (fail)
    go_ret
    refine ⟨rfl, ?_⟩
    exact bl_step (bl_alloc (bl_step (bl_step (bl_alloc (Below.refl _ _) _) B1.out) B2.out) _) hb3
set_option maxHeartbeats 1600000 in
theorem least_all (d0 d1 d2 z : Int) (w : World) (h3 : vld d0 d1 d2 = true) (z1 : -4398046511104 ≤ z) (z2 : z ≤ 4398046511104) :
    Calls Try.prog 4 #[.agg #[.int .i64 d0, .int .i64 d1, .int .i64 d2], .int .i64 (-1), .int .i64 z] w fun e w' => e = .returned (.bool true) ∧ Below w.heap.size w w' := by
  obtain ⟨b1, b2, b3, b4, b5, b6⟩ := vld_bd h3
  have HV := allocV_good h3 (show isB (-1) = true by decide)
  obtain ⟨q, hq⟩ : ∃ q, q = zOf d0 d1 d2 (-1) := ⟨_, rfl⟩
  rw [← hq] at HV
  simp only [zOf, if_true] at hq
  have hle := least_plain d0 d1 d2 z q hq
  have k1 : -1099511627776 ≤ q ∧ q ≤ 1099511627776 := by omega
  obtain ⟨k1, k2⟩ := k1
  clear hq
  have HA := Lib.hid HV; clear HV
  go_enter Try.func4, Try.ntmps4
  go_wp2_with (fail)
  refine (lawvalid_any _ _ _ _).mono ?_
  rintro e w1 ⟨rfl, hb1⟩
  obtain ⟨hc1, hf1⟩ := bcell hb1
  have hz1 := hb1.size
  simp only [World.size_alloc] at hz1 hc1 hf1
  have B1 := Lib.hid hb1; clear hb1
  have q1 : w.heap.size < w1.heap.size := by omega
  go_wp2_with (fail)
  refine (alloc_any _ _ _ _ _).mono ?_
  rw [HA.out]
  rintro e w2 ⟨rfl, hb2⟩
  obtain ⟨hc2, hf2⟩ := bcell hb2
  have hz2 := hb2.size
  have B2 := Lib.hid hb2; clear hb2
  have q2 : w.heap.size < w2.heap.size := by omega
  have q3 : w.heap.size < w2.heap.size + 1 := by omega
  have q4 : w.heap.size ≤ w2.heap.size := by omega
  have q5 : w2.heap.size < w2.heap.size + 1 := by omega
  go_wp2_with (fail)
  have e0 : IntKind.i64.wrap (d0 - z) = d0 - z := IntWalk.i64_in _ (by omega)
  have e1 : IntKind.i64.wrap (d1 - z) = d1 - z := IntWalk.i64_in _ (by omega)
  have e2 : IntKind.i64.wrap (d2 - z) = d2 - z := IntWalk.i64_in _ (by omega)
  refine region_calm (by kernel_rfl) (by kernel_rfl) ?_
  repeat (quiet_step ((first | (go_at_call 14; exact calm_of (greatest_any _ _ _ _ _ (by omega) (by omega) (by omega) (by omega) (by omega) (by omega) (by omega) (by omega))) | (go_at_call 12; exact calm_of (awake_any _)))))
  refine wpQuiet_nil ?_; intro _ hw'; obtain ⟨xq, hw''⟩ := hw'; subst hw''
  go_wp2_with (fail)
  go_ret
  refine ⟨rfl, ?_⟩
  exact bl_step (bl_alloc (bl_step (bl_step (bl_alloc (Below.refl _ _) _) B1.out) B2.out) _) (below_ext _ _)
theorem WheelsLeast_walk (a0_0 : Int) (a0_1 : Int) (a0_2 : Int) (a1 : Int) (a2 : Int) (w : World) (w0_0 : (Lit.int .i64 a0_0).wf = true) (w0_1 : (Lit.int .i64 a0_1).wf = true) (w0_2 : (Lit.int .i64 a0_2).wf = true) (w1 : (Lit.int .i64 a1).wf = true) (w2 : (Lit.int .i64 a2).wf = true) :
    Calls Try.prog 4 #[.agg #[.int .i64 a0_0, .int .i64 a0_1, .int .i64 a0_2], .int .i64 a1, .int .i64 a2] w fun e w' => e = .returned (.bool true) ∧ Below w.heap.size w w' := by
  by_cases h : a1 < -1 ∨ 3 < a1 ∨ vld a0_0 a0_1 a0_2 = false ∨ a2 < -4398046511104 ∨ 4398046511104 < a2
  · exact least_bad a0_0 a0_1 a0_2 a1 a2 w h
  · have h3 : vld a0_0 a0_1 a0_2 = true := by
      cases hv : vld a0_0 a0_1 a0_2
      · exact (h (Or.inr (Or.inr (Or.inl hv)))).elim
      · rfl
    by_cases h1 : a1 = -1
    · subst h1
      exact least_all a0_0 a0_1 a0_2 a2 w h3 (by omega) (by omega)
    · exact least_f a0_0 a0_1 a0_2 a1 a2 w h3 (by omega) (by omega) (by omega)
end Go.Proofs.Ytcmmjikkoebboaa
