/-
  The walk of power.Check. Conditions: none beyond a slice of loads.
-/
import Derived.Test.YtbdobcmblbojfaaSrt
namespace Go.Proofs.Ytbdobcmblbojfaa
open Go.RowKit Kit
set_option linter.unusedVariables false
def bad (d r : Int) : Bool := !(inR d 1073741824) || !(inR r 15)
theorem pred_any (d r : Int) (o : Bool) (p : Nat) (W : World) (hp : W.cell? ⟨p, 0, none⟩ = some (.func (.func 27) #[] #[])) (hpl : p < W.heap.size) :
    Calls Try.prog 29 #[.agg #[.int .i64 d, .int .i64 r, .bool o], .pointer (some ⟨p, 0, none⟩)] W fun e w' => e = .returned (.bool (bad d r)) ∧ Below W.heap.size W w' := by
  have A := Lib.hid (within_any d 1073741824)
  have B := Lib.hid (within_any r 15)
  unfold bad
  have hne : p ≠ W.heap.size := by omega
  generalize inR d 1073741824 = t at A ⊢
  generalize inR r 15 = u at B ⊢
  cases t with
  | true =>
    go_enter Try.func29, Try.ntmps29
    go_wp2_with (fail)
    refine (A.out _).mono ?_
    rintro e _ ⟨rfl, rfl⟩
    go_wp2_with (fail)
    refine (B.out _).mono ?_
    rintro e _ ⟨rfl, rfl⟩
    go_wp2_with (fail)
    go_ret
    exact ⟨by simp, bl_alloc (Below.refl _ _) _⟩
  | false =>
    go_enter Try.func29, Try.ntmps29
    go_wp2_with (fail)
    refine (A.out _).mono ?_
    rintro e _ ⟨rfl, rfl⟩
    go_wp2_with (fail)
    go_ret
    exact ⟨by simp, bl_alloc (Below.refl _ _) _⟩
/-- The first that is bad, or -1. -/
def badAt (l : List Ld) : Nat → Nat → Int
  | _, 0 => -1
  | k, m + 1 => if bad (dr l k) (rk l k) then (k : Int) else badAt l (k + 1) m
def okK (l : List Ld) (k : Nat) : Prop := ∀ i, i < k → bad (dr l i) (rk l i) = false
theorem okD_iff (l : List Ld) : okD l ↔ okK l l.length := by
  have hb : ∀ i, bad (dr l i) (rk l i) = false ↔ (0 ≤ dr l i ∧ dr l i ≤ 1073741824) ∧ (0 ≤ rk l i ∧ rk l i ≤ 15) := fun i => by
    simp [bad, inR]
  constructor
  · intro h i hi
    obtain ⟨h1, h2, h3, h4⟩ := h.at i
    exact (hb i).2 ⟨⟨h1, h2⟩, h3, h4⟩
  · intro h x hx
    obtain ⟨i, hi, rfl⟩ := List.getElem_of_mem hx
    obtain ⟨⟨h1, h2⟩, h3, h4⟩ := (hb i).1 (h i hi)
    rw [dr, List.getD_eq_getElem?_getD, List.getElem?_eq_getElem hi] at h1 h2
    rw [rk, List.getD_eq_getElem?_getD, List.getElem?_eq_getElem hi] at h3 h4
    exact ⟨h1, h2, h3, h4⟩
set_option maxHeartbeats 800000 in
theorem index_any (l : List Ld) (a : Option Addr) (n c p : Nat) (w : World) (hL : Lds w a n c l) (hn : n ≤ 1000000) (hp : w.cell? ⟨p, 0, none⟩ = some (.func (.func 27) #[] #[])) (hpl : p < w.heap.size) :
    Calls Try.prog 33 #[.slice a n c, .func (.func 29) #[] #[.pointer (some ⟨p, 0, none⟩)]] w fun e w' => ∃ x : Int, e = .returned (.int .i64 x) ∧ decide (0 ≤ x) = !decide (okD l) ∧ Below w.heap.size w w' := by
  have N1 := Lib.hid hL.1; have HL := Lib.hid hL
  have hcap := hL.2.1
  have hcap2 := hL.2.2.1
  unfold maxLen at hcap2
  have HP := Lib.hid hp
  clear hL hp
  go_enter Try.func33, Try.ntmps33
  go_wp2_with (fail)
  go_loopw [5, 8] (fun _ i wr => ∃ k : Nat, k ≤ n ∧ i = .int .i64 k ∧ okK l k ∧ Below w.heap.size w wr) (fun _ i _ => n - (intOf i).toNat)
  case atStart => exact ⟨0, by omega, rfl, fun i hi => by omega, Below.refl _ _⟩
  case round =>
    obtain ⟨k, hk, rfl, hok, hB⟩ := hrel
    have HB := Lib.hid hB
    have HK := Lib.hid hok
    clear hB hok
    by_cases hlt : k < n
    · obtain ⟨b, off, rfl, hbl, c0, c1, c2⟩ := (HL.out.below HB.out).2.2.2 k hlt
      have PA := Lib.hid (pred_any (dr l k) (rk l k) (isOn l k) p wr ((HB.out.cell (p := ⟨p, 0, none⟩) hpl).trans HP.out) (Nat.lt_of_lt_of_le hpl HB.out.size))
      obtain ⟨t, ht⟩ : ∃ t, Hid (bad (dr l k) (rk l k) = t) := ⟨_, Lib.hid rfl⟩
      rw [ht.out] at PA
      generalize dr l k = D at c0 PA
      generalize rk l k = R at c1 PA
      cases t with
      | true =>
        go_wp2_with (fail)
        refine PA.out.mono ?_
        rintro e w3 ⟨rfl, b3⟩
        go_wp2_with (fail)
        go_ret
        refine ⟨_, rfl, ?_, bl_step HB.out b3⟩
        rw [decide_eq_true (by omega), decide_eq_false]
        · rfl
        · intro h
          have := (okD_iff l).1 h k (by rw [← N1.out]; exact hlt)
          rw [ht.out] at this
          cases this
      | false =>
        go_wp2_with (fail)
        refine PA.out.mono ?_
        rintro e w3 ⟨rfl, b3⟩
        have B3 := Lib.hid (bl_step HB.out b3)
        clear b3
        go_wp2_with (fail)
        go_roundw
        case rel => exact ⟨k + 1, by omega, by simp, fun i hi => by
          rcases Nat.lt_succ_iff_lt_or_eq.1 hi with h | rfl
          · exact HK.out i h
          · exact ht.out, B3.out⟩
        case measure => simp [intOf]; omega
    · obtain rfl : k = n := by omega
      go_wp2_with (fail)
      go_ret
      refine ⟨_, rfl, ?_, HB.out⟩
      rw [decide_eq_true ((okD_iff l).2 (by rw [← N1.out]; exact HK.out))]
      rfl
theorem contains_any (l : List Ld) (a : Option Addr) (n c p : Nat) (w : World) (hL : Lds w a n c l) (hn : n ≤ 1000000) (hp : w.cell? ⟨p, 0, none⟩ = some (.func (.func 27) #[] #[])) (hpl : p < w.heap.size) :
    Calls Try.prog 28 #[.slice a n c, .func (.func 29) #[] #[.pointer (some ⟨p, 0, none⟩)]] w fun e w' => e = .returned (.bool (!decide (okD l))) ∧ Below w.heap.size w w' := by
  have IA := Lib.hid (index_any l a n c p w hL hn hp hpl)
  generalize decide (okD l) = R at IA ⊢
  clear hL hp
  go_enter Try.func28, Try.ntmps28
  go_wp2_with (fail)
  refine IA.out.mono ?_
  rintro e w3 ⟨x, rfl, hx, b3⟩
  have HX := Lib.hid hx
  clear hx
  go_wp2_with (fail)
  go_ret
  exact ⟨by rw [← HX.out]; rfl, b3⟩
end Go.Proofs.Ytbdobcmblbojfaa
