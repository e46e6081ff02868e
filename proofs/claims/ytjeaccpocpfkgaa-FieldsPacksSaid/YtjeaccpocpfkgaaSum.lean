/-
  Slices of numbers as lists, and the walks of fields.sum and the reference's all and bits. Conditions: slices of at most 100000 elements.
-/
import Derived.Test.YtjeaccpocpfkgaaDist
import Derived.Test.YtjeaccpocpfkgaaKite
namespace Go.Proofs.Ytjeaccpocpfkgaa
open Go.RowKit Kit
set_option linter.unusedVariables false
/-- A slice of numbers, as a list. -/
def Nums (k : IntKind) (w : World) (a : Option Addr) (n c : Nat) (X : List Int) : Prop :=
  n = X.length ∧ n ≤ c ∧ c ≤ maxLen ∧ ∀ i x, X[i]? = some x → ∃ b off, a = some ⟨b, off, none⟩ ∧ b < w.heap.size ∧ w.cell? ⟨b, off + i, none⟩ = some (.int k x)
theorem Nums.below {k : IntKind} {w w' : World} {a : Option Addr} {n c : Nat} {X : List Int} (h : Nums k w a n c X) (hb : Below w.heap.size w w') : Nums k w' a n c X := by
  refine ⟨h.1, h.2.1, h.2.2.1, fun i x hx => ?_⟩
  obtain ⟨b, off, rfl, hl, hc⟩ := h.2.2.2 i x hx
  exact ⟨b, off, rfl, Nat.lt_of_lt_of_le hl hb.size, by rw [hb.cell (p := ⟨b, off + i, none⟩) hl]; exact hc⟩
theorem Nums.at {k : IntKind} {w : World} {a : Option Addr} {n c : Nat} {X : List Int} (h : Nums k w a n c X) {i : Nat} (hi : i < n) : ∃ b off, a = some ⟨b, off, none⟩ ∧ b < w.heap.size ∧ w.cell? ⟨b, off + i, none⟩ = some (.int k (X.getD i 0)) := by
  obtain ⟨b, off, h1, h2, h3⟩ := h.2.2.2 i (X[i]'(by rw [← h.1]; exact hi)) (List.getElem?_eq_getElem _)
  refine ⟨b, off, h1, h2, ?_⟩
  rw [h3, List.getD_eq_getElem?_getD, List.getElem?_eq_getElem (by rw [← h.1]; exact hi)]
  rfl
/-- All widths are from 1 to 64. -/
def okW (X : List Int) : Prop := ∀ i, i < X.length → 1 ≤ X.getD i 0 ∧ X.getD i 0 ≤ 64
instance (X : List Int) : Decidable (okW X) := by unfold okW; infer_instance
def wid (X : List Int) (i : Nat) : Nat := (X.getD i 0).toNat
/-- Where the field i begins. -/
def offs (W : Nat → Nat) : Nat → Nat
  | 0 => 0
  | k + 1 => offs W k + W k
theorem offs_le (X : List Int) (h : okW X) : ∀ k, k ≤ X.length → offs (wid X) k ≤ 64 * k
  | 0, _ => Nat.le_refl _
  | k + 1, hk => by
    have := offs_le X h k (by omega)
    have := h k (by omega)
    have h2 : wid X k ≤ 64 := by unfold wid; omega
    rw [offs]; omega
theorem offs_le' (X : List Int) : ∀ k, (∀ i, i < k → 1 ≤ X.getD i 0 ∧ X.getD i 0 ≤ 64) → offs (wid X) k ≤ 64 * k
  | 0, _ => Nat.le_refl _
  | k + 1, h => by
    have := offs_le' X k (fun i hi => h i (by omega))
    have := h k (by omega)
    have h2 : wid X k ≤ 64 := by unfold wid; omega
    rw [offs]; omega
def sumR (X : List Int) : Value := if okW X then .tuple #[.int .i64 (offs (wid X) X.length : Nat), .bool true] else .tuple #[.int .i64 0, .bool false]
set_option maxHeartbeats 800000 in
theorem sum_any (X : List Int) (a : Option Addr) (n c : Nat) (w : World) (hX : Nums .i64 w a n c X) (hn : n ≤ 100000) : Calls Try.prog 41 #[.slice a n c] w fun e w' => e = .returned (sumR X) ∧ w = w' := by
  obtain ⟨R, hR⟩ : ∃ R, Hid (sumR X = R) := ⟨_, Lib.hid rfl⟩
  rw [hR.out]
  have N1 := Lib.hid hX.1; have HX := Lib.hid hX
  clear hX
  go_enter Try.func41, Try.ntmps41
  go_wp2_with (fail)
  go_loopw [4, 6, 9] (fun s _ i wr => ∃ k : Nat, k ≤ n ∧ (∀ i, i < k → 1 ≤ X.getD i 0 ∧ X.getD i 0 ≤ 64) ∧ i = .int .i64 k ∧ s = .int .i64 (offs (wid X) k : Nat) ∧ wr = w) (fun _ _ i _ => n - (intOf i).toNat)
  case atStart => exact ⟨0, by omega, by omega, rfl, rfl, rfl⟩
  case round =>
    obtain ⟨k, hk, hall, rfl, rfl, rfl⟩ := hrel
    by_cases hlt : k < n
    · obtain ⟨b, off, rfl, hbl, hcell⟩ := HX.out.at hlt
      have hst : offs (wid X) (k + 1) = offs (wid X) k + wid X k := rfl
      have hso := offs_le' X k hall
      have hw : Hid (1 ≤ X.getD k 0 → (wid X k : Int) = X.getD k 0) := Lib.hid (fun h => by unfold wid; omega)
      obtain ⟨s, hs⟩ : ∃ s, s = offs (wid X) k := ⟨_, rfl⟩
      obtain ⟨x, hx⟩ : ∃ x, Hid (x = X.getD k 0) := ⟨_, Lib.hid rfl⟩
      rw [← hs] at hst hso ⊢
      rw [← hx.out] at hw hcell
      have HA := Lib.hid hall; have HST := Lib.hid hst
      clear hs hall hst
      by_cases c1 : x < 1
      · have hz : R = .tuple #[.int .i64 0, .bool false] := by rw [← hR.out]; unfold sumR; rw [if_neg (show ¬ okW X from fun h => by have := h k (by rw [← N1.out]; exact hlt); rw [← hx.out] at this; omega)]
        subst hz
        go_wp2_with (fail)
        go_ret2
        exact ⟨rfl, rfl⟩
      · by_cases c2 : 64 < x
        · have hz : R = .tuple #[.int .i64 0, .bool false] := by rw [← hR.out]; unfold sumR; rw [if_neg (show ¬ okW X from fun h => by have := h k (by rw [← N1.out]; exact hlt); rw [← hx.out] at this; omega)]
          subst hz
          go_wp2_with (fail)
          go_ret2
          exact ⟨rfl, rfl⟩
        · go_wp2_with (fail)
          go_roundw
          case rel => exact ⟨k + 1, by omega, fun i hi => by
            rcases Nat.lt_succ_iff_lt_or_eq.1 hi with h | rfl
            · exact HA.out i h
            · rw [← hx.out]; omega, by simp, by rw [HST.out]; have := hw.out (by omega); congr 1; omega, by first | rfl | trivial⟩
          case measure => simp [intOf]; omega
    · obtain rfl : k = n := by omega
      have hz : R = .tuple #[.int .i64 (offs (wid X) k : Nat), .bool true] := by rw [← hR.out]; unfold sumR; rw [if_pos (show okW X from fun i hi => hall i (by rw [N1.out]; exact hi)), ← N1.out]
      subst hz
      clear hall
      go_wp2_with (fail)
      go_ret2
      exact ⟨rfl, rfl⟩
set_option maxHeartbeats 800000 in
theorem all_any (X : List Int) (a : Option Addr) (n c : Nat) (w : World) (hX : Nums .i64 w a n c X) (hn : n ≤ 100000) : Calls Try.prog 43 #[.slice a n c] w fun e w' => e = .returned (.bool (decide (okW X))) ∧ w = w' := by
  obtain ⟨R, hR⟩ : ∃ R, Hid (decide (okW X) = R) := ⟨_, Lib.hid rfl⟩
  rw [hR.out]
  have N1 := Lib.hid hX.1; have HX := Lib.hid hX
  clear hX
  go_enter Try.func43, Try.ntmps43
  go_wp2_with (fail)
  go_loopw [3] (fun i wr => ∃ k : Nat, k ≤ n ∧ (∀ i, i < k → 1 ≤ X.getD i 0 ∧ X.getD i 0 ≤ 64) ∧ i = .int .i64 k ∧ wr = w) (fun i _ => n - (intOf i).toNat)
  case atStart => exact ⟨0, by omega, by omega, rfl, rfl⟩
  case round =>
    obtain ⟨k, hk, hall, rfl, rfl⟩ := hrel
    by_cases hlt : k < n
    · obtain ⟨b, off, rfl, hbl, hcell⟩ := HX.out.at hlt
      obtain ⟨x, hx⟩ : ∃ x, Hid (x = X.getD k 0) := ⟨_, Lib.hid rfl⟩
      rw [← hx.out] at hcell
      have HA := Lib.hid hall
      clear hall
      by_cases c1 : x < 1
      · have hz : R = false := by rw [← hR.out, decide_eq_false_iff_not]; exact fun h => by have := h k (by rw [← N1.out]; exact hlt); rw [← hx.out] at this; omega
        subst hz
        go_wp2_with (fail)
        go_ret
        exact ⟨rfl, rfl⟩
      · by_cases c2 : 64 < x
        · have hz : R = false := by rw [← hR.out, decide_eq_false_iff_not]; exact fun h => by have := h k (by rw [← N1.out]; exact hlt); rw [← hx.out] at this; omega
          subst hz
          go_wp2_with (fail)
          go_ret
          exact ⟨rfl, rfl⟩
        · go_wp2_with (fail)
          go_roundw
          case rel => exact ⟨k + 1, by omega, fun i hi => by
            rcases Nat.lt_succ_iff_lt_or_eq.1 hi with h | rfl
            · exact HA.out i h
            · rw [← hx.out]; omega, by simp, by first | rfl | trivial⟩
          case measure => simp [intOf]; omega
    · obtain rfl : k = n := by omega
      have hz : R = true := by rw [← hR.out, decide_eq_true_eq]; exact fun i hi => hall i (by rw [N1.out]; exact hi)
      subst hz
      clear hall
      go_wp2_with (fail)
      go_ret
      exact ⟨rfl, rfl⟩
set_option maxHeartbeats 800000 in
theorem bits_any (X : List Int) (a : Option Addr) (n c : Nat) (w : World) (hX : Nums .i64 w a n c X) (hn : n ≤ 100000) (hok : okW X) : Calls Try.prog 44 #[.slice a n c] w fun e w' => e = .returned (.int .i64 (offs (wid X) n : Nat)) ∧ w = w' := by
  have N1 := Lib.hid hX.1; have HX := Lib.hid hX; have HK := Lib.hid hok
  clear hX hok
  go_enter Try.func44, Try.ntmps44
  go_wp2_with (fail)
  go_loopw [3, 4] (fun s i wr => ∃ k : Nat, k ≤ n ∧ i = .int .i64 k ∧ s = .int .i64 (offs (wid X) k : Nat) ∧ wr = w) (fun _ i _ => n - (intOf i).toNat)
  case atStart => exact ⟨0, by omega, rfl, rfl, rfl⟩
  case round =>
    obtain ⟨k, hk, rfl, rfl, rfl⟩ := hrel
    by_cases hlt : k < n
    · obtain ⟨b, off, rfl, hbl, hcell⟩ := HX.out.at hlt
      have hst : offs (wid X) (k + 1) = offs (wid X) k + wid X k := rfl
      have hso := offs_le X HK.out k (by rw [← N1.out]; omega)
      obtain ⟨h1, h2⟩ := HK.out k (by rw [← N1.out]; exact hlt)
      have hw : (wid X k : Int) = X.getD k 0 := by unfold wid; omega
      obtain ⟨s, hs⟩ : ∃ s, s = offs (wid X) k := ⟨_, rfl⟩
      obtain ⟨x, hx⟩ : ∃ x, x = wid X k := ⟨_, rfl⟩
      rw [← hs] at hst hso ⊢
      rw [← hw, ← hx] at hcell h1 h2
      rw [← hx] at hst
      have HST := Lib.hid hst
      clear hs hst hx hw
      go_wp2_with (fail)
      go_roundw
      case rel => exact ⟨k + 1, by omega, by simp, by rw [HST.out]; congr 1, by first | rfl | trivial⟩
      case measure => simp [intOf]; omega
    · obtain rfl : k = n := by omega
      go_wp2_with (fail)
      go_ret
      exact ⟨rfl, rfl⟩
end Go.Proofs.Ytjeaccpocpfkgaa
