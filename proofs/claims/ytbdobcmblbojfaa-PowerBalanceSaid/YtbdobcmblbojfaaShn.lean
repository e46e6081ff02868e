/-
  The walks of SameBools, kept and shown. Conditions: those that each theorem names.
-/
import Derived.Test.YtbdobcmblbojfaaStpb
namespace Go.Proofs.Ytbdobcmblbojfaa
open Go.RowKit Kit Go.Shelf
set_option linter.unusedVariables false
/-- A slice of truth values, as a list. -/
def Bls (w : World) (a : Option Addr) (n c : Nat) (S : List Bool) : Prop :=
  n = S.length ∧ n ≤ c ∧ c ≤ maxLen ∧ ∀ i, i < n → ∃ b off, a = some ⟨b, off, none⟩ ∧ b < w.heap.size ∧ w.cell? ⟨b, off + i, none⟩ = some (.bool (sv S i))
theorem Bls.below {w w' : World} {a : Option Addr} {n c : Nat} {S : List Bool} (h : Bls w a n c S) (hb : Below w.heap.size w w') : Bls w' a n c S := by
  refine ⟨h.1, h.2.1, h.2.2.1, fun i hi => ?_⟩
  obtain ⟨b, off, rfl, hl, h0⟩ := h.2.2.2 i hi
  exact ⟨b, off, rfl, Nat.lt_of_lt_of_le hl hb.size, by rw [hb.cell (p := ⟨b, off + i, none⟩) hl]; exact h0⟩
theorem own_bls {w : World} {base n : Nat} {v : Value} {S : List Bool} (h : w.ownsRow base 4 1 v n (bls S)) : ∃ a c, v = .slice a n c ∧ Bls w a n c S := by
  have hl : n = S.length := by have := h.1; simpa [bls] using this.symm
  rcases h.2 with ⟨h1, h2⟩ | ⟨g, cap, cur, h1, hb, hg, h3, h4, h5, h6⟩
  · subst h2
    exact ⟨none, 0, h1, hl, Nat.le_refl _, by simp [maxLen], fun i hi => by omega⟩
  · subst h1
    refine ⟨_, _, rfl, hl, by omega, by omega, fun i hi => ⟨g, 0, rfl, lt_of_obj hg, ?_⟩⟩
    rw [Nat.zero_add]
    exact own_cell h (bls_get S n i hl.symm hi)
theorem sv_eq {S T : List Bool} (hl : S.length = T.length) (h : ∀ i, i < S.length → sv S i = sv T i) : S = T := by
  apply List.ext_getElem hl
  intro i h1 h2
  have := h i h1
  unfold sv at this
  rwa [List.getD_eq_getElem?_getD, List.getD_eq_getElem?_getD, List.getElem?_eq_getElem h1, List.getElem?_eq_getElem h2] at this
set_option maxHeartbeats 800000 in
theorem samebools_any (S T : List Bool) (a a' : Option Addr) (n n' c c' : Nat) (w : World) (hX : Bls w a n c S) (hV : Bls w a' n' c' T) (hn : n ≤ 100000) (hn' : n' ≤ 100000) : Calls Try.prog 13 #[.slice a n c, .slice a' n' c'] w fun e w' => e = .returned (.bool (decide (S = T))) ∧ Below w.heap.size w w' := by
  obtain ⟨R, hR⟩ : ∃ R, Hid (decide (S = T) = R) := ⟨_, Lib.hid rfl⟩
  rw [hR.out]
  have N1 := Lib.hid hX.1; have N2 := Lib.hid hV.1; have HX := Lib.hid hX; have HV := Lib.hid hV
  have h1 := hX.2.1; have h2 := hX.2.2.1; have h3 := hV.2.1; have h4 := hV.2.2.1
  unfold maxLen at h2 h4
  clear hX hV
  by_cases hl : n = n'
  · subst hl
    have hne : ((n : Int) != (n : Int)) = false := by simp
    go_enter Try.func13, Try.ntmps13
    go_wp2_with (fail)
    go_loopw [5] (fun i wr => ∃ k : Nat, k ≤ n ∧ i = .int .i64 k ∧ (∀ i, i < k → sv S i = sv T i) ∧ ∃ q, wr = w.drewN q) (fun i _ => n - (intOf i).toNat)
    case atStart => exact ⟨0, by omega, rfl, fun i hi => by omega, 0, rfl⟩
    case round =>
      obtain ⟨k, hk, rfl, hall, q, rfl⟩ := hrel
      by_cases hlt : k < n
      · obtain ⟨b, off, rfl, hbl, hcell⟩ := HX.out.2.2.2 k hlt
        obtain ⟨b', off', rfl, hbl', hcell'⟩ := HV.out.2.2.2 k hlt
        obtain ⟨x, hx⟩ : ∃ x, Hid (x = sv S k) := ⟨_, Lib.hid rfl⟩
        obtain ⟨y, hy⟩ : ∃ y, Hid (y = sv T k) := ⟨_, Lib.hid rfl⟩
        rw [← hx.out] at hcell
        rw [← hy.out] at hcell'
        have HA := Lib.hid hall
        clear hall
        by_cases hxy : x = y
        · subst hxy
          cases x with
          | true =>
            go_wp2_with (fail)
            go_quiet (fail)
            go_wp2_with (fail)
            go_roundw
            case rel => exact ⟨k + 1, by omega, by simp, fun i hi => by
              rcases Nat.lt_succ_iff_lt_or_eq.1 hi with h | rfl
              · exact HA.out i h
              · rw [← hx.out, ← hy.out], _, rfl⟩
            case measure => simp [intOf]; omega
          | false =>
            go_wp2_with (fail)
            go_quiet (fail)
            go_wp2_with (fail)
            go_roundw
            case rel => exact ⟨k + 1, by omega, by simp, fun i hi => by
              rcases Nat.lt_succ_iff_lt_or_eq.1 hi with h | rfl
              · exact HA.out i h
              · rw [← hx.out, ← hy.out], _, rfl⟩
            case measure => simp [intOf]; omega
        · have hz : R = false := by rw [← hR.out, decide_eq_false_iff_not]; exact fun h => hxy (by rw [hx.out, hy.out, h])
          subst hz
          have hyx : y = !x := by cases x <;> cases y <;> simp_all
          subst hyx
          clear hxy
          cases x with
          | true =>
            simp only [Bool.not_true] at hcell'
            go_wp2_with (fail)
            go_quiet (fail)
            go_wp2_with (fail)
            go_ret
            exact ⟨rfl, below_drewN (below_drewN (Below.refl _ _) _) _⟩
          | false =>
            simp only [Bool.not_false] at hcell'
            go_wp2_with (fail)
            go_quiet (fail)
            go_wp2_with (fail)
            go_ret
            exact ⟨rfl, below_drewN (below_drewN (Below.refl _ _) _) _⟩
      · obtain rfl : k = n := by omega
        have hz : R = true := by rw [← hR.out, decide_eq_true_eq]; exact sv_eq (by rw [← N1.out, ← N2.out]) (fun i hi => hall i (by rw [N1.out]; exact hi))
        subst hz
        clear hall
        go_wp2_with (fail)
        go_ret
        exact ⟨rfl, below_drewN (Below.refl _ _) _⟩
  · have hz : R = false := by rw [← hR.out, decide_eq_false_iff_not]; exact fun h => hl (by rw [N1.out, N2.out, h])
    subst hz
    have hne : ((n : Int) != (n' : Int)) = true := by simp; omega
    clear hl
    go_enter Try.func13, Try.ntmps13
    go_wp2_with (fail)
    go_ret
    exact ⟨rfl, Below.refl _ _⟩
set_option maxHeartbeats 800000 in
theorem kept_any (base : Nat) (l : List Ld) (a : Option Addr) (v : Value) (n c : Nat) (w : World) (hK : LentL base w v n l) (hL : Lds w a n c l) (hn : n ≤ 1000) :
    Calls Try.prog 16 #[v, .slice a n c] w fun e w' => e = .returned (.bool true) ∧ Below w.heap.size w w' := by
  obtain ⟨g, cap, rfl, hO, hc1, hseven⟩ := hK.lds hL.1
  have HO := Lib.hid hO; have HL := Lib.hid hL; have H7 := Lib.hid hseven
  have h2 := hO.2.2.1
  have h3 := hL.2.1; have h4 := hL.2.2.1
  unfold maxLen at h2 h4
  have hgl : g < w.heap.size := by
    obtain ⟨g', cap', e, ho⟩ := hK
    simp only [Value.slice.injEq, Option.some.injEq, Addr.mk.injEq, and_true, true_and] at e
    obtain ⟨rfl, rfl⟩ := e
    exact (own_lt ho).2
  have HGL := Lib.hid hgl
  clear hO hL hK hseven hgl
  go_enter Try.func16, Try.ntmps16
  go_wp2_with (fail)
  go_loopw [5] (fun i wr => ∃ k : Nat, k ≤ n ∧ i = .int .i64 k ∧ ∃ q, wr = w.drewN q) (fun i _ => n - (intOf i).toNat)
  case atStart => exact ⟨0, by omega, rfl, 0, rfl⟩
  case round =>
    obtain ⟨k, hk, rfl, q, rfl⟩ := hrel
    by_cases hlt : k < n
    · obtain ⟨b, off, rfl, hbl, d0, d1, d2⟩ := HL.out.2.2.2 k hlt
      obtain ⟨b', off', he, hbl', e0, e1, e2⟩ := HO.out.2.2.2 k hlt
      simp only [Option.some.injEq, Addr.mk.injEq, and_true] at he
      obtain ⟨rfl, rfl⟩ := he
      rw [Nat.zero_add] at e0 e1 e2
      go_wp2_with (fail)
      go_quiet (fail)
      go_wp2_with (fail)
      go_roundw
      case rel => exact ⟨k + 1, by omega, by simp, _, rfl⟩
      case measure => simp [intOf]; omega
    · obtain rfl : k = n := by omega
      have h7 := H7.out
      have hgl := HGL.out
      go_wp2_with (fail)
      go_ret
      exact ⟨rfl, below_drewN (Below.refl _ _) _⟩
end Go.Proofs.Ytbdobcmblbojfaa
