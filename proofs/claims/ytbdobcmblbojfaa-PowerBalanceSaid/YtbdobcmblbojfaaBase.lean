/-
  The loads as a list, and the walks of the small functions. Conditions: those that each theorem names.
-/
import Derived.Test.YtbdobcmblbojfaaPure
import Derived.Test.YtbdobcmblbojfaaKite
import Derived.Test.YtbdobcmblbojfaaProg
namespace Go.Proofs.Ytbdobcmblbojfaa
open Go.RowKit Kit
set_option linter.unusedVariables false
def cellsL (x : Ld) : List Value := [.int .i64 x.1, .int .i64 x.2.1, .bool x.2.2]
/-- A slice of loads, as a list. -/
def Lds (w : World) (a : Option Addr) (n c : Nat) (l : List Ld) : Prop :=
  n = l.length ∧ n ≤ c ∧ c ≤ maxLen ∧ ∀ i, i < n → ∃ b off, a = some ⟨b, off, none⟩ ∧ b < w.heap.size ∧ w.cell? ⟨b, off + i * 3, none⟩ = some (.int .i64 (dr l i)) ∧ w.cell? ⟨b, off + i * 3 + 1, none⟩ = some (.int .i64 (rk l i)) ∧ w.cell? ⟨b, off + i * 3 + 2, none⟩ = some (.bool (isOn l i))
theorem Lds.below {w w' : World} {a : Option Addr} {n c : Nat} {l : List Ld} (h : Lds w a n c l) (hb : Below w.heap.size w w') : Lds w' a n c l := by
  refine ⟨h.1, h.2.1, h.2.2.1, fun i hi => ?_⟩
  obtain ⟨b, off, rfl, hl, h0, h1, h2⟩ := h.2.2.2 i hi
  exact ⟨b, off, rfl, Nat.lt_of_lt_of_le hl hb.size, by rw [hb.cell (p := ⟨b, off + i * 3, none⟩) hl]; exact h0, by rw [hb.cell (p := ⟨b, off + i * 3 + 1, none⟩) hl]; exact h1, by rw [hb.cell (p := ⟨b, off + i * 3 + 2, none⟩) hl]; exact h2⟩
/-- All numbers are such as an int64 holds. -/
def wfL (l : List Ld) : Prop := ∀ x ∈ l, (Lit.int .i64 x.1).wf = true ∧ (Lit.int .i64 x.2.1).wf = true
theorem slIn_lds {w : World} {v : Value} (h : SlIn [.inl .i64, .inl .i64, .inr false] w v) : ∃ a n c l, v = .slice a n c ∧ Lds w a n c l ∧ wfL l ∧ (a = none → n = 0 ∧ c = 0) := by
  obtain ⟨Y, h1, h2, h3⟩ := slIn_l h
  have hx : ∀ y ∈ Y, ∃ x : Ld, y = cellsL x ∧ (Lit.int .i64 x.1).wf = true ∧ (Lit.int .i64 x.2.1).wf = true := fun y hy => by
    obtain ⟨p, cs, rfl, h4, h5⟩ := scAll_int (h3 y hy)
    obtain ⟨q, cs2, rfl, h6, h7⟩ := scAll_int h5
    obtain ⟨o, cs3, rfl, h8⟩ := scAll_bool h7
    rw [scAll_nil h8]; exact ⟨(p, q, o), rfl, h4, h6⟩
  have key : ∀ Y : List (List Value), (∀ y ∈ Y, ∃ x : Ld, y = cellsL x ∧ (Lit.int .i64 x.1).wf = true ∧ (Lit.int .i64 x.2.1).wf = true) → ∃ l : List Ld, Y = l.map cellsL ∧ wfL l := by
    intro Y
    induction Y with
    | nil => exact fun _ => ⟨[], rfl, by simp [wfL]⟩
    | cons y Y ih =>
      intro hy
      obtain ⟨x, rfl, hw⟩ := hy y (by simp)
      obtain ⟨X, rfl, hX⟩ := ih (fun z hz => hy z (by simp [hz]))
      exact ⟨x :: X, rfl, by unfold wfL; simp only [List.mem_cons, forall_eq_or_imp]; exact ⟨hw, hX⟩⟩
  obtain ⟨l, rfl, hX⟩ := key Y hx
  rcases h1 with ⟨b, off, c, rfl, k1, k2, k3, k4⟩ | ⟨he, a, rfl⟩
  · refine ⟨some ⟨b, off, none⟩, l.length, c, l, by simp, ⟨rfl, by simpa using k1, k2, fun i hi => ⟨b, off, rfl, k3, ?_, ?_, ?_⟩⟩, hX, fun e => by cases e⟩
    · have := k4 i (cellsL l[i]) (by rw [List.getElem?_map, List.getElem?_eq_getElem hi]; rfl) 0 (by simp)
      rw [dr, List.getD_eq_getElem?_getD, List.getElem?_eq_getElem hi]
      simpa [cellsL] using this
    · have := k4 i (cellsL l[i]) (by rw [List.getElem?_map, List.getElem?_eq_getElem hi]; rfl) 1 (by simp)
      rw [rk, List.getD_eq_getElem?_getD, List.getElem?_eq_getElem hi]
      simpa [cellsL] using this
    · have := k4 i (cellsL l[i]) (by rw [List.getElem?_map, List.getElem?_eq_getElem hi]; rfl) 2 (by simp)
      rw [isOn, List.getD_eq_getElem?_getD, List.getElem?_eq_getElem hi]
      simpa [cellsL] using this
  · have : l = [] := by simpa using he
    subst this
    exact ⟨a, 0, 0, [], rfl, ⟨rfl, by simp, by simp, fun i hi => by omega⟩, by simp [wfL], fun _ => ⟨rfl, rfl⟩⟩
/-- From 0 to m. -/
def inR (x m : Int) : Bool := decide (0 ≤ x) && decide (x ≤ m)
theorem within_any (x m : Int) (w : World) : Calls Try.prog 27 #[.int .i64 x, .int .i64 m] w fun e w' => e = .returned (.bool (inR x m)) ∧ w = w' := by
  unfold inR
  by_cases h0 : 0 ≤ x
  · have hd : decide (0 ≤ x) = true := by simpa using h0
    rw [hd, Bool.true_and]
    clear hd
    go_enter Try.func27, Try.ntmps27
    go_wp2
    go_ret
    exact ⟨rfl, rfl⟩
  · have hd : decide (0 ≤ x) = false := by simpa using h0
    rw [hd, Bool.false_and]
    clear hd
    go_enter Try.func27, Try.ntmps27
    go_wp2
    go_ret
    exact ⟨rfl, rfl⟩
theorem total_any (x : Int) (w : World) : Calls Try.prog 26 #[.int .i64 x] w fun e w' => e = .returned (.bool (inR x 1152921504606846976)) ∧ w = w' := by
  unfold inR
  by_cases h0 : 0 ≤ x
  · have hd : decide (0 ≤ x) = true := by simpa using h0
    rw [hd, Bool.true_and]
    clear hd
    go_enter Try.func26, Try.ntmps26
    go_wp2
    go_ret
    exact ⟨rfl, rfl⟩
  · have hd : decide (0 ≤ x) = false := by simpa using h0
    rw [hd, Bool.false_and]
    clear hd
    go_enter Try.func26, Try.ntmps26
    go_wp2
    go_ret
    exact ⟨rfl, rfl⟩
set_option maxHeartbeats 800000 in
theorem needed_any (l : List Ld) (a : Option Addr) (n c : Nat) (w : World) (hL : Lds w a n c l) (hn : n ≤ 16) (hd : okD l) :
    Calls Try.prog 23 #[.slice a n c] w fun e w' => e = .returned (.int .i64 (sumS l (onL l))) ∧ Below w.heap.size w w' := by
  have N1 := Lib.hid hL.1; have HL := Lib.hid hL; have HD := Lib.hid hd
  have hcap := hL.2.1
  have hcap2 := hL.2.2.1
  unfold maxLen at hcap2
  clear hL hd
  go_enter Try.func23, Try.ntmps23
  go_wp2
  go_loopw [2, 7] (fun s i wr => ∃ k : Nat, k ≤ n ∧ i = .int .i64 k ∧ s = .int .i64 (sumK l (onL l) k) ∧ Below w.heap.size w wr) (fun _ i _ => n - (intOf i).toNat)
  case atStart => exact ⟨0, by omega, rfl, rfl, Below.refl _ _⟩
  case round =>
    obtain ⟨k, hk, rfl, rfl, hB⟩ := hrel
    have HB := Lib.hid hB
    clear hB
    by_cases hlt : k < n
    · obtain ⟨b, off, rfl, hbl, c0, c1, c2⟩ := (HL.out.below HB.out).2.2.2 k hlt
      obtain ⟨b1, b2⟩ := sumK_bound HD.out (onL l) k
      obtain ⟨d1, d2, _, _⟩ := HD.out.at k
      have e1 : sumK l (onL l) (k + 1) = sumK l (onL l) k + (if isOn l k then dr l k else 0) := by rw [sumK, sv_onL]
      obtain ⟨S, hS⟩ : ∃ S, S = sumK l (onL l) k := ⟨_, rfl⟩
      obtain ⟨D, hD⟩ : ∃ D, D = dr l k := ⟨_, rfl⟩
      obtain ⟨R, hR⟩ : ∃ R, R = rk l k := ⟨_, rfl⟩
      rw [← hS] at b1 b2 e1 ⊢
      rw [← hD] at d1 d2 e1 c0
      rw [← hR] at c1
      clear hS hD hR
      have E1 := Lib.hid e1
      clear e1
      cases ho : isOn l k with
      | true =>
        rw [ho] at c2 E1
        clear ho
        go_wp2
        go_roundw
        case rel => exact ⟨k + 1, by omega, by simp, by rw [E1.out]; simp, bl_alloc HB.out _⟩
        case measure => simp [intOf]; omega
      | false =>
        rw [ho] at c2 E1
        clear ho
        go_wp2
        go_roundw
        case rel => exact ⟨k + 1, by omega, by simp, by rw [E1.out]; simp, bl_alloc HB.out _⟩
        case measure => simp [intOf]; omega
    · obtain rfl : k = n := by omega
      have e1 : sumK l (onL l) k = sumS l (onL l) := by rw [sumS, ← N1.out]
      rw [e1]
      clear e1
      go_wp2
      go_ret
      exact ⟨rfl, HB.out⟩
end Go.Proofs.Ytbdobcmblbojfaa
