/-
  The walks of the reference's Bounded and Valid. Conditions: none.
-/
import Derived.Test.YtfjhlgmdkkdooaaRefHyp
namespace Go.Proofs.Ytfjhlgmdkkdooaa
open Go.RowKit Kit
set_option linter.unusedVariables false
def inB (x : Int) : Bool := decide (-1099511627776 ≤ x) && decide (x ≤ 1099511627776)
def bdB (L : List Int) : Bool := inB (L.getD 0 0) && inB (L.getD 1 0) && inB (L.getD 2 0) && inB (L.getD 3 0)
theorem bdB_true {L : List Int} (h : ∀ j, j < 4 → inB (L.getD j 0) = true) : bdB L = true := by
  unfold bdB; rw [h 0 (by omega), h 1 (by omega), h 2 (by omega), h 3 (by omega)]; rfl
theorem bdB_false {L : List Int} {k : Nat} (hk : k < 4) (h : inB (L.getD k 0) = false) : bdB L = false := by
  have : k = 0 ∨ k = 1 ∨ k = 2 ∨ k = 3 := by omega
  unfold bdB
  rcases this with rfl | rfl | rfl | rfl <;> rw [h] <;> simp
set_option maxHeartbeats 1600000 in
theorem bounded_any (a b c d : Int) (w : World) : Calls Try.prog 24 #[.agg #[.int .i64 a, .int .i64 b, .int .i64 c, .int .i64 d]] w fun e w' => e = .returned (.bool (bdB [a, b, c, d])) ∧ Below w.heap.size w w' := by
  have hn := hp_new w (.cells #[.int .i64 a, .int .i64 b, .int .i64 c, .int .i64 d] 28)
  have HC : Hid (LC (w.alloc (.cells #[.int .i64 a, .int .i64 b, .int .i64 c, .int .i64 d] 28)) w.heap.size [a, b, c, d]) := Lib.hid (fun i hi => by
    have hi' : i = 0 ∨ i = 1 ∨ i = 2 ∨ i = 3 := by omega
    rcases hi' with rfl | rfl | rfl | rfl
    · exact cell_of (i := 0) hn rfl
    · exact cell_of (i := 1) hn rfl
    · exact cell_of (i := 2) hn rfl
    · exact cell_of (i := 3) hn rfl)
  clear hn
  obtain ⟨L, hL⟩ : ∃ L, L = [a, b, c, d] := ⟨_, rfl⟩
  obtain ⟨R, hR⟩ : ∃ R, Hid (bdB L = R) := ⟨_, Lib.hid rfl⟩
  rw [← hL] at HC ⊢
  rw [hR.out]
  obtain ⟨W0, hW⟩ : ∃ W0, W0 = w.alloc (.cells #[.int .i64 a, .int .i64 b, .int .i64 c, .int .i64 d] 28) := ⟨_, rfl⟩
  have BL : Hid (Below w.heap.size w W0) := Lib.hid (by rw [hW]; exact bl_alloc (Below.refl _ _) _)
  rw [← hW] at HC
  have HW := Lib.hid hW
  clear hL hW
  go_enter Try.func24, Try.ntmps24
  go_wp2_with (fail)
  rw [← HW.out]
  clear HW
  go_loop [3] (fun i => ∃ k : Nat, k ≤ 4 ∧ i = .int .i64 k ∧ ∀ j, j < k → inB (L.getD j 0) = true) (fun i => 4 - (intOf i).toNat)
  case atStart => exact ⟨0, by omega, rfl, fun j hj => by omega⟩
  case round =>
    obtain ⟨k, hk, rfl, hj⟩ := hrel
    have HJ := Lib.hid hj
    clear hj
    by_cases hlt : k < 4
    · obtain ⟨x, hx⟩ : ∃ x, x = L.getD k 0 := ⟨_, rfl⟩
      have y := HC.out k hlt
      rw [← hx] at y
      have HX := Lib.hid hx
      clear hx
      have b0 : (0 : Int) ≤ (k : Int) := by omega
      have b1 : (k : Int) < 4 := by omega
      by_cases c1 : x < -1099511627776
      · have hz : R = false := by rw [← hR.out]; exact bdB_false hlt (by rw [← HX.out]; unfold inB; simp; omega)
        subst hz
        go_wp2_with (fail)
        go_ret
        exact ⟨rfl, BL.out⟩
      · have d1 : decide (x < -1099511627776) = false := by rw [decide_eq_false_iff_not]; exact c1
        by_cases c2 : 1099511627776 < x
        · have hz : R = false := by rw [← hR.out]; exact bdB_false hlt (by rw [← HX.out]; unfold inB; simp; omega)
          subst hz
          go_wp2_with (fail)
          go_ret
          exact ⟨rfl, BL.out⟩
        · have d2 : decide (1099511627776 < x) = false := by rw [decide_eq_false_iff_not]; exact c2
          have hi : inB x = true := by unfold inB; simp; omega
          have HI := Lib.hid hi
          clear hi c1 c2
          go_wp2_with (fail)
          go_round
          case rel => exact ⟨k + 1, by omega, by go_num, fun j hj => by
            by_cases e : j = k
            · rw [e, ← HX.out]; exact HI.out
            · exact HJ.out j (by omega)⟩
          case measure => simp [intOf]; omega
    · obtain rfl : k = 4 := by omega
      have hz : R = true := by rw [← hR.out]; exact bdB_true HJ.out
      subst hz
      go_wp2_with (fail)
      go_ret
      exact ⟨rfl, BL.out⟩
theorem sq_ge (L : List Int) {i : Nat} (hi : i < 4) : (L.getD i 0).natAbs * (L.getD i 0).natAbs ≤ sq L 4 :=
  Nat.le_trans (Nat.le_add_left _ _) (sq_mono L (show i + 1 ≤ 4 from hi))
theorem qv_out {L : List Int} (h : bdB L = false) : qv L = false := by
  have : ∃ i, i < 4 ∧ inB (L.getD i 0) = false := by
    rcases h0 : inB (L.getD 0 0)
    · exact ⟨0, by omega, h0⟩
    · rcases h1 : inB (L.getD 1 0)
      · exact ⟨1, by omega, h1⟩
      · rcases h2 : inB (L.getD 2 0)
        · exact ⟨2, by omega, h2⟩
        · rcases h3 : inB (L.getD 3 0)
          · exact ⟨3, by omega, h3⟩
          · unfold bdB at h; rw [h0, h1, h2, h3] at h; cases h
  obtain ⟨i, hi, hf⟩ := this
  have h1 : 1099511627776 ≤ (L.getD i 0).natAbs := by generalize L.getD i 0 = x at *; unfold inB at hf; simp only [Bool.and_eq_false_iff, decide_eq_false_iff_not] at hf; omega
  have h2 := Nat.mul_le_mul h1 h1
  have h3 := sq_ge L hi
  unfold qv
  rw [decide_eq_false_iff_not]
  omega
theorem inB_bd {L : List Int} (h : bdB L = true) (hl : L.length = 4) : ∀ i, -1099511627776 ≤ L.getD i 0 ∧ L.getD i 0 ≤ 1099511627776 := by
  intro i
  by_cases hi : i < 4
  · have hb : inB (L.getD i 0) = true := by
      unfold bdB at h
      simp only [Bool.and_eq_true] at h
      have : i = 0 ∨ i = 1 ∨ i = 2 ∨ i = 3 := by omega
      rcases this with rfl | rfl | rfl | rfl
      · exact h.1.1.1
      · exact h.1.1.2
      · exact h.1.2
      · exact h.2
    generalize L.getD i 0 = x at *
    unfold inB at hb; simp only [Bool.and_eq_true, decide_eq_true_eq] at hb; omega
  · rw [List.getD_eq_getElem?_getD, List.getElem?_eq_none (by omega)]; simp
set_option maxHeartbeats 1600000 in
theorem refvalid_any (a b c d : Int) (w : World) : Calls Try.prog 18 #[.agg #[.int .i64 a, .int .i64 b, .int .i64 c, .int .i64 d]] w fun e w' => e = .returned (.bool (qv [a, b, c, d])) ∧ Below w.heap.size w w' := by
  have hn := hp_new w (.cells #[.int .i64 a, .int .i64 b, .int .i64 c, .int .i64 d] 28)
  have HC : Hid (LC (w.alloc (.cells #[.int .i64 a, .int .i64 b, .int .i64 c, .int .i64 d] 28)) w.heap.size [a, b, c, d]) := Lib.hid (fun i hi => by
    have hi' : i = 0 ∨ i = 1 ∨ i = 2 ∨ i = 3 := by omega
    rcases hi' with rfl | rfl | rfl | rfl
    · exact cell_of (i := 0) hn rfl
    · exact cell_of (i := 1) hn rfl
    · exact cell_of (i := 2) hn rfl
    · exact cell_of (i := 3) hn rfl)
  clear hn
  obtain ⟨Q, hQ⟩ : ∃ Q, Hid (qv [a, b, c, d] = Q) := ⟨_, Lib.hid rfl⟩
  rw [hQ.out]
  rcases hb : bdB [a, b, c, d]
  · have hz : Q = false := by rw [← hQ.out]; exact qv_out hb
    subst hz
    have HB := Lib.hid hb
    clear hb
    go_enter Try.func18, Try.ntmps18
    go_wp2_with (fail)
    refine (bounded_any _ _ _ _ _).mono ?_
    rw [HB.out]
    rintro e w1 ⟨rfl, hb1⟩
    have B1 := Lib.hid (bl_step (bl_alloc (Below.refl _ _) _) hb1)
    clear hb1
    go_wp2_with (fail)
    go_ret
    exact ⟨rfl, B1.out⟩
  · have IB := Lib.hid (inB_bd hb rfl)
    have HB := Lib.hid hb
    clear hb
    go_enter Try.func18, Try.ntmps18
    go_wp2_with (fail)
    refine (bounded_any _ _ _ _ _).mono ?_
    rw [HB.out]
    rintro e w1 ⟨rfl, hb1⟩
    have C1 := Lib.hid (HC.out.below hb1)
    have B1 := Lib.hid (bl_step (bl_alloc (Below.refl _ _) _) hb1)
    clear hb1
    go_wp2_with (fail)
    refine (refhyp_any [a, b, c, d] IB.out w.heap.size 4 _ C1.out).mono ?_
    rintro e w2 ⟨n, rfl, hr, hb2⟩
    have B2 := Lib.hid (bl_step B1.out hb2)
    obtain ⟨q1, q2⟩ := qv_root hr
    have K : Hid (Q = decide (1073741820 ≤ n ∧ n ≤ 1073741828)) := Lib.hid (by rw [← hQ.out, Bool.eq_iff_iff]; unfold qv; simp only [decide_eq_true_eq]; rw [q1, q2])
    clear hb2 hr q1 q2
    by_cases c1 : (1073741820 : Int) ≤ (n : Int)
    · by_cases c2 : (n : Int) ≤ 1073741828
      · have hz : Q = true := by rw [K.out]; simp; omega
        subst hz
        go_wp2_with (fail)
        go_ret
        exact ⟨rfl, B2.out⟩
      · have hz : Q = false := by rw [K.out, decide_eq_false_iff_not]; omega
        subst hz
        have hd : decide ((n : Int) ≤ 1073741828) = false := by rw [decide_eq_false_iff_not]; exact c2
        clear c2
        go_wp2_with (fail)
        go_ret
        exact ⟨rfl, B2.out⟩
    · have hz : Q = false := by rw [K.out, decide_eq_false_iff_not]; omega
      subst hz
      have hd : decide ((1073741820 : Int) ≤ (n : Int)) = false := by rw [decide_eq_false_iff_not]; exact c1
      clear c1
      go_wp2_with (fail)
      go_ret
      exact ⟨rfl, B2.out⟩
end Go.Proofs.Ytfjhlgmdkkdooaa
