/-
  The walks of same and SameInts: whether two slices of numbers are equal. Conditions: slices of at most 100000 elements.
-/
import Derived.Test.YtjeaccpocpfkgaaPack
namespace Go.Proofs.Ytjeaccpocpfkgaa
open Go.RowKit Kit
set_option linter.unusedVariables false
theorem Nums.drewN {k : IntKind} {w : World} {a : Option Addr} {n c : Nat} {X : List Int} (h : Nums k w a n c X) (q : Nat) : Nums k (w.drewN q) a n c X := h.below (below_drewN (Below.refl _ _) q)
theorem list_eq_of {X V : List Int} (hl : X.length = V.length) (h : ∀ i, i < X.length → X.getD i 0 = V.getD i 0) : X = V := by
  apply List.ext_getElem hl
  intro i h1 h2
  have := h i h1
  rwa [List.getD_eq_getElem?_getD, List.getD_eq_getElem?_getD, List.getElem?_eq_getElem h1, List.getElem?_eq_getElem h2] at this
set_option maxHeartbeats 800000 in
theorem same_any (X V : List Int) (a a' : Option Addr) (n n' c c' : Nat) (w : World) (hX : Nums .u64 w a n c X) (hV : Nums .u64 w a' n' c' V) (hn : n ≤ 100000) (hn' : n' ≤ 100000) : Calls Try.prog 27 #[.slice a n c, .slice a' n' c'] w fun e w' => e = .returned (.bool (decide (X = V))) ∧ ∃ q, w' = w.drewN q := by
  obtain ⟨R, hR⟩ : ∃ R, Hid (decide (X = V) = R) := ⟨_, Lib.hid rfl⟩
  rw [hR.out]
  have N1 := Lib.hid hX.1; have HX := Lib.hid hX; have N2 := Lib.hid hV.1; have HV := Lib.hid hV
  clear hX hV
  by_cases hl : n = n'
  · subst hl
    go_enter Try.func27, Try.ntmps27
    go_wp2_with (fail)
    go_loopw [5] (fun i wr => ∃ k : Nat, k ≤ n ∧ (∀ i, i < k → X.getD i 0 = V.getD i 0) ∧ i = .int .i64 k ∧ ∃ q, wr = w.drewN q) (fun i _ => n - (intOf i).toNat)
    case atStart => exact ⟨0, by omega, by omega, rfl, 0, rfl⟩
    case round =>
      obtain ⟨k, hk, hall, rfl, q, rfl⟩ := hrel
      by_cases hlt : k < n
      · obtain ⟨b, off, rfl, hbl, hcell⟩ := HX.out.at hlt
        obtain ⟨b', off', rfl, hbl', hcell'⟩ := HV.out.at hlt
        obtain ⟨x, hx⟩ : ∃ x, Hid (x = X.getD k 0) := ⟨_, Lib.hid rfl⟩
        obtain ⟨y, hy⟩ : ∃ x, Hid (x = V.getD k 0) := ⟨_, Lib.hid rfl⟩
        rw [← hx.out] at hcell
        rw [← hy.out] at hcell'
        have HA := Lib.hid hall
        clear hall
        by_cases hxy : x = y
        · have hne : (x != y) = false := by simp [hxy]
          have HXY := Lib.hid hxy
          clear hxy
          go_wp2_with (fail)
          go_quiet (fail)
          go_wp2_with (fail)
          go_roundw
          case rel => exact ⟨k + 1, by omega, fun i hi => by
            rcases Nat.lt_succ_iff_lt_or_eq.1 hi with h | rfl
            · exact HA.out i h
            · rw [← hx.out, ← hy.out]; exact HXY.out, by simp, _, rfl⟩
          case measure => simp [intOf]; omega
        · have hne : (x != y) = true := by simp [hxy]
          have hz : R = false := by rw [← hR.out, decide_eq_false_iff_not]; exact fun h => hxy (by rw [hx.out, hy.out, h])
          subst hz
          clear hxy
          go_wp2_with (fail)
          go_quiet (fail)
          go_wp2_with (fail)
          go_ret
          exact ⟨rfl, _, World.drewN_drewN _ _ _⟩
      · obtain rfl : k = n := by omega
        have hz : R = true := by rw [← hR.out, decide_eq_true_eq]; exact list_eq_of (by rw [← N1.out, ← N2.out]) (fun i hi => hall i (by rw [N1.out]; exact hi))
        subst hz
        clear hall
        go_wp2_with (fail)
        go_ret
        exact ⟨rfl, q, rfl⟩
  · have hz : R = false := by rw [← hR.out, decide_eq_false_iff_not]; exact fun h => hl (by rw [N1.out, N2.out, h])
    subst hz
    have hne : ((n : Int) != (n' : Int)) = true := by simp; omega
    clear hl
    go_enter Try.func27, Try.ntmps27
    go_wp2_with (fail)
    go_ret
    exact ⟨rfl, 0, rfl⟩
set_option maxHeartbeats 800000 in
theorem sameints_any (X V : List Int) (a a' : Option Addr) (n n' c c' : Nat) (w : World) (hX : Nums .i64 w a n c X) (hV : Nums .i64 w a' n' c' V) (hn : n ≤ 100000) (hn' : n' ≤ 100000) : Calls Try.prog 45 #[.slice a n c, .slice a' n' c'] w fun e w' => e = .returned (.bool (decide (X = V))) ∧ ∃ q, w' = w.drewN q := by
  obtain ⟨R, hR⟩ : ∃ R, Hid (decide (X = V) = R) := ⟨_, Lib.hid rfl⟩
  rw [hR.out]
  have N1 := Lib.hid hX.1; have HX := Lib.hid hX; have N2 := Lib.hid hV.1; have HV := Lib.hid hV
  clear hX hV
  by_cases hl : n = n'
  · subst hl
    go_enter Try.func45, Try.ntmps45
    go_wp2_with (fail)
    go_loopw [5] (fun i wr => ∃ k : Nat, k ≤ n ∧ (∀ i, i < k → X.getD i 0 = V.getD i 0) ∧ i = .int .i64 k ∧ ∃ q, wr = w.drewN q) (fun i _ => n - (intOf i).toNat)
    case atStart => exact ⟨0, by omega, by omega, rfl, 0, rfl⟩
    case round =>
      obtain ⟨k, hk, hall, rfl, q, rfl⟩ := hrel
      by_cases hlt : k < n
      · obtain ⟨b, off, rfl, hbl, hcell⟩ := HX.out.at hlt
        obtain ⟨b', off', rfl, hbl', hcell'⟩ := HV.out.at hlt
        obtain ⟨x, hx⟩ : ∃ x, Hid (x = X.getD k 0) := ⟨_, Lib.hid rfl⟩
        obtain ⟨y, hy⟩ : ∃ x, Hid (x = V.getD k 0) := ⟨_, Lib.hid rfl⟩
        rw [← hx.out] at hcell
        rw [← hy.out] at hcell'
        have HA := Lib.hid hall
        clear hall
        by_cases hxy : x = y
        · have hne : (x != y) = false := by simp [hxy]
          have HXY := Lib.hid hxy
          clear hxy
          go_wp2_with (fail)
          go_quiet (fail)
          go_wp2_with (fail)
          go_roundw
          case rel => exact ⟨k + 1, by omega, fun i hi => by
            rcases Nat.lt_succ_iff_lt_or_eq.1 hi with h | rfl
            · exact HA.out i h
            · rw [← hx.out, ← hy.out]; exact HXY.out, by simp, _, rfl⟩
          case measure => simp [intOf]; omega
        · have hne : (x != y) = true := by simp [hxy]
          have hz : R = false := by rw [← hR.out, decide_eq_false_iff_not]; exact fun h => hxy (by rw [hx.out, hy.out, h])
          subst hz
          clear hxy
          go_wp2_with (fail)
          go_quiet (fail)
          go_wp2_with (fail)
          go_ret
          exact ⟨rfl, _, World.drewN_drewN _ _ _⟩
      · obtain rfl : k = n := by omega
        have hz : R = true := by rw [← hR.out, decide_eq_true_eq]; exact list_eq_of (by rw [← N1.out, ← N2.out]) (fun i hi => hall i (by rw [N1.out]; exact hi))
        subst hz
        clear hall
        go_wp2_with (fail)
        go_ret
        exact ⟨rfl, q, rfl⟩
  · have hz : R = false := by rw [← hR.out, decide_eq_false_iff_not]; exact fun h => hl (by rw [N1.out, N2.out, h])
    subst hz
    have hne : ((n : Int) != (n' : Int)) = true := by simp; omega
    clear hl
    go_enter Try.func45, Try.ntmps45
    go_wp2_with (fail)
    go_ret
    exact ⟨rfl, 0, rfl⟩
end Go.Proofs.Ytjeaccpocpfkgaa
