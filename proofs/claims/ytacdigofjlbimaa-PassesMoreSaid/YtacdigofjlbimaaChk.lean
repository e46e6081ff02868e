/-
  The walks of Check, of the reference's Valid and Check, and of follows. Conditions: those that each theorem names.
-/
import Derived.Test.YtacdigofjlbimaaBase
namespace Go.Proofs.Ytacdigofjlbimaa
open Go.RowKit Kit
set_option linter.unusedVariables false
theorem ckE_long {L : List Wn} {g b m : Int} (h : 40 < L.length) : ckE L g b m = 3 := by unfold ckE; rw [if_pos h]
theorem ckE_bad {L : List Wn} {g b m : Int} (h : ¬ 40 < L.length) (h2 : ¬ (vL (wl L) L.length ∧ vR g b m)) : ckE L g b m = 2 := by unfold ckE; rw [if_neg h, if_neg h2]
theorem ckE_ok {L : List Wn} {g b m : Int} (h : ¬ 40 < L.length) (h1 : vL (wl L) L.length) (h2 : vR g b m) : ckE L g b m = 0 := by unfold ckE; rw [if_neg h, if_pos ⟨h1, h2⟩]
theorem vL_succ {W : Nat → Wn} {k : Nat} (h : vL W k) (hk : vW (W k)) : vL W (k + 1) := fun i hi => by
  rcases Nat.lt_succ_iff_lt_or_eq.1 hi with h' | rfl
  · exact h i h'
  · exact hk
theorem vL_not {W : Nat → Wn} {k n : Nat} (hk : k < n) (h : ¬ vW (W k)) : ¬ vL W n := fun h' => h (h' k hk)
set_option maxHeartbeats 3200000 in
theorem check_any (L : List Wn) (g b m : Int) (a : Option Addr) (n c : Nat) (w : World) (hW : WS w a n c L) :
    Calls Try.prog 19 #[.slice a n c, .agg #[.int .i64 g, .int .i64 b, .int .i64 m]] w fun e w' => e = .returned (.int .i64 (ckE L g b m)) ∧ Below w.heap.size w w' := by
  obtain ⟨R, hR⟩ : ∃ R, Hid (R = ckE L g b m) := ⟨_, Lib.hid rfl⟩
  rw [← hR.out]
  have N1 := Lib.hid hW.1; have HL := Lib.hid hW
  have hcap := hW.2.1
  have hcap2 := hW.2.2.1
  unfold maxLen at hcap2
  clear hW
  by_cases h40 : 40 < n
  · have e : R = 3 := by rw [hR.out, ckE_long (by rw [← N1.out]; exact h40)]
    subst e
    go_enter Try.func19, Try.ntmps19
    go_wp2_with (fail)
    go_ret
    exact ⟨rfl, bl_alloc (Below.refl _ _) _⟩
  · go_enter Try.func19, Try.ntmps19
    go_wp2_with (fail)
    go_loopw [6, 12] (fun _ i wr => ∃ k : Nat, k ≤ n ∧ i = .int .i64 k ∧ vL (wl L) k ∧ Below w.heap.size w wr ∧ wr.heap[w.heap.size]? = some (.cells #[.int .i64 g, .int .i64 b, .int .i64 m] 24)) (fun _ i _ => n - (intOf i).toNat)
    case atStart => exact ⟨0, by omega, rfl, fun i hi => by omega, bl_alloc (Below.refl _ _) _, hp_new w _⟩
    case round =>
      obtain ⟨k, hk, rfl, hok, hB, hO⟩ := hrel
      have HB := Lib.hid hB; have HK := Lib.hid hok; have HO := Lib.hid hO
      have hg := hB.size
      have hg2 := lt_of_obj hO
      have r0 : wr.cell? ⟨w.heap.size, 0, none⟩ = some (.int .i64 g) := cell_of hO rfl
      have r1 : wr.cell? ⟨w.heap.size, 1, none⟩ = some (.int .i64 b) := cell_of hO rfl
      have r2 : wr.cell? ⟨w.heap.size, 2, none⟩ = some (.int .i64 m) := cell_of hO rfl
      clear hB hok hO
      by_cases hlt : k < n
      · obtain ⟨bb, off, rfl, hbl, c0, c1, c2, c3, c4⟩ := (HL.out.below HB.out).2.2.2 k hlt
        obtain ⟨x, hx⟩ : ∃ x, Hid (x = wl L k) := ⟨_, Lib.hid rfl⟩
        rw [← hx.out] at c0 c1 c2 c3 c4
        obtain ⟨fr, tt, st, va, co⟩ := x
        simp only at c0 c1 c2 c3 c4
        clear r0 r1 r2
        by_cases hv : vW ⟨fr, tt, st, va, co⟩
        · have HV := Lib.hid hv
          simp only [vW] at hv
          obtain ⟨v1, v2, v3, v4, v5, v6, v7, v8, v9⟩ := hv
          go_wp2_with (fail)
          go_roundw
          case rel => exact ⟨k + 1, by omega, by simp, vL_succ HK.out (by rw [← hx.out]; exact HV.out), bl_alloc HB.out _, hp_old HO.out _⟩
          case measure => simp [intOf]; omega
        · have e : R = 2 := by rw [hR.out, ckE_bad (by rw [← N1.out]; exact h40) (fun h => vL_not (by rw [← N1.out]; exact hlt) (by rw [← hx.out]; exact hv) h.1)]
          subst e
          simp only [vW] at hv
          go_wp2_with (fail)
          all_goals first
            | (go_ret; exact ⟨rfl, bl_alloc HB.out _⟩)
            | (exfalso; omega)
      · have hkn : k = n := by omega
        subst hkn
        by_cases hr : vR g b m
        · have e : R = 0 := by rw [hR.out, ckE_ok (by rw [← N1.out]; exact h40) (by rw [← N1.out]; exact HK.out) hr]
          subst e
          simp only [vR] at hr
          obtain ⟨v1, v2, v3, v4, v5, v6⟩ := hr
          go_wp2_with (fail)
          go_ret
          exact ⟨rfl, HB.out⟩
        · have e : R = 2 := by rw [hR.out, ckE_bad (by rw [← N1.out]; exact h40) (fun h => hr h.2)]
          subst e
          simp only [vR] at hr
          go_wp2_with (fail)
          all_goals first
            | (go_ret; exact ⟨rfl, HB.out⟩)
            | (exfalso; omega)
set_option maxHeartbeats 1600000 in
theorem rvalid_any (fr tt st va co : Int) (w : World) : Calls Try.prog 25 #[wv ⟨fr, tt, st, va, co⟩] w fun e w' => e = .returned (.bool (decide (vW ⟨fr, tt, st, va, co⟩))) ∧ Below w.heap.size w w' := by
  by_cases hv : vW ⟨fr, tt, st, va, co⟩
  · rw [decide_eq_true hv]
    simp only [vW] at hv
    obtain ⟨v1, v2, v3, v4, v5, v6, v7, v8, v9⟩ := hv
    go_enter Try.func25, Try.ntmps25
    go_wp2_with (fail)
    go_ret
    exact ⟨rfl, bl_alloc (Below.refl _ _) _⟩
  · rw [decide_eq_false hv]
    simp only [vW] at hv
    go_enter Try.func25, Try.ntmps25
    go_wp2_with (fail)
    all_goals first
      | (go_ret; exact ⟨rfl, bl_alloc (Below.refl _ _) _⟩)
      | (go_ret; refine ⟨ret_bool ?_, bl_alloc (Below.refl _ _) _⟩; simp; omega)
      | (exfalso; omega)
theorem follows_any (x y : Wn) (gap : Int) (w : World) (h1 : 0 ≤ x.to ∧ x.to ≤ 1099511627776) (h2 : 0 ≤ gap ∧ gap ≤ 1099511627776) : Calls Try.prog 31 #[wv x, wv y, .int .i64 gap] w fun e w' => e = .returned (.bool (fol x y gap)) ∧ Below w.heap.size w w' := by
  obtain ⟨fr, tt, st, va, co⟩ := x
  obtain ⟨fr', tt', st', va', co'⟩ := y
  unfold fol
  simp only at h1 ⊢
  obtain ⟨v1, v2⟩ := h1
  obtain ⟨v3, v4⟩ := h2
  by_cases hs : st = st'
  · subst hs
    rw [if_pos rfl, Int.add_zero]
    go_enter Try.func31, Try.ntmps31
    go_wp2_with (fail)
    go_ret
    exact ⟨rfl, bl_alloc (bl_alloc (Below.refl _ _) _) _⟩
  · have hb : (st == st') = false := by simpa using hs
    rw [if_neg hs]
    have W := IntWalk.i64_in (tt + gap) (by omega)
    clear hs
    go_enter Try.func31, Try.ntmps31
    go_wp2_with (fail)
    go_ret
    exact ⟨rfl, bl_alloc (bl_alloc (Below.refl _ _) _) _⟩
end Go.Proofs.Ytacdigofjlbimaa
