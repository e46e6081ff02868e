/-
  The walks of power.Panel, of both Lasts, and of the reference's Check and sum. Conditions: those that each theorem names.
-/
import Derived.Test.YtbdobcmblbojfaaRef
namespace Go.Proofs.Ytbdobcmblbojfaa
open Go.RowKit Kit Go.Shelf
set_option linter.unusedVariables false
set_option linter.unusedSimpArgs false
theorem or_zero (v : Nat) (hv : v < 18446744073709551616) : bits BinOp.or IntKind.u64 0 (v : Int) = (v : Int) := by
  have h := u64_or_nat 0 v (by omega) hv
  rw [Nat.zero_or] at h
  exact h
set_option maxHeartbeats 800000 in
theorem panel_any (p q : Int) (dark : Bool) (w : World) : Calls Try.prog 17 #[.int .i64 p, .int .i64 q, .bool dark] w fun e w' => e = .returned (.int .i64 (if dark then 0 else panP p q)) ∧ w = w' := by
  have gmn := fun w x y => run_min_mn Try.prog w #[2, 2] 2 .i64 .i64 x y
  cases dark with
  | true =>
    go_enter Try.func17, Try.ntmps17
    go_wp2_with (fail)
    go_ret
    exact ⟨rfl, rfl⟩
  | false =>
    by_cases hp : p ≤ 0
    · have e := panP_no (p := p) (q := q) (.inl hp)
      simp only [e]
      clear e
      go_enter Try.func17, Try.ntmps17
      go_wp2_with (fail)
      go_ret
      exact ⟨rfl, rfl⟩
    · by_cases hq : q ≤ 0
      · have e := panP_no (p := p) (q := q) (.inr hq)
        simp only [e]
        clear e
        go_enter Try.func17, Try.ntmps17
        go_wp2_with (fail)
        go_ret
        exact ⟨rfl, rfl⟩
      · have e := panP_pos hp hq
        have hx := mn_in hp
        have hy := mn_in hq
        have hm := mul_in hx hy
        obtain ⟨R, hR⟩ : ∃ R, R = panP p q := ⟨_, rfl⟩
        rw [← hR] at e ⊢
        have g1 := fun w => gmn w p 1073741824
        have g2 := fun w => gmn w q 1073741824
        generalize mn p 1073741824 = x at *
        generalize mn q 1073741824 = y at *
        obtain ⟨a, rfl⟩ := Int.eq_ofNat_of_zero_le (show 0 ≤ x by omega)
        obtain ⟨b, rfl⟩ := Int.eq_ofNat_of_zero_le (show 0 ≤ y by omega)
        have hab : a * b ≤ 1152921504606846976 := by have := hm.2; rw [← Int.natCast_mul] at this; omega
        have hMU := fun W => Try.bits_Mul64 a b (by omega) (by omega) W
        rw [Nat.div_eq_of_lt (show a * b < 18446744073709551616 by omega), Nat.mod_eq_of_lt (show a * b < 18446744073709551616 by omega)] at hMU
        rw [← Int.natCast_mul] at e
        obtain ⟨z, hz⟩ : ∃ z, z = a * b := ⟨_, rfl⟩
        rw [← hz] at hab e hMU
        have HE := Lib.hid e
        have MU := Lib.hid hMU
        have hor := or_zero (z / 1073741824) (by omega)
        rw [show ((z / 1073741824 : Nat) : Int) = (z : Int) / 1073741824 from by omega] at hor
        clear gmn e hz hR hm hMU
        go_enter Try.func17, Try.ntmps17
        go_wp2_with (fail)
        refine (MU.out _).mono ?_
        rintro e _ ⟨rfl, rfl⟩
        go_wp2_with (fail)
        go_ret
        exact ⟨by rw [HE.out]; rfl, rfl⟩
theorem okC_parts {c f m u s : Int} {l : List Ld} (h : okC c f m u s l = true) : (0 ≤ m ∧ m ≤ 1152921504606846976) ∧ (0 ≤ u ∧ u ≤ 1152921504606846976) ∧ (0 ≤ s ∧ s ≤ 1152921504606846976) ∧ 1 ≤ f ∧ f ≤ 1099511627776 ∧ 0 ≤ c ∧ c ≤ f ∧ l.length ≤ 16 ∧ okD l := by
  unfold okC at h
  simp only [Bool.and_eq_true, Bool.not_eq_true', decide_eq_false_iff_not, decide_eq_true_eq] at h
  obtain ⟨⟨⟨⟨⟨⟨⟨k1, k2⟩, k3⟩, k4⟩, k5⟩, k6⟩, k7⟩, hd⟩ := h
  unfold inR at k1 k2 k3 k5 k6
  simp only [Bool.and_eq_true, decide_eq_true_eq] at k1 k2 k3 k5 k6
  exact ⟨k1, k2, k3, by omega, k5.2, k6.1, k6.2, by omega, hd⟩
/-- How many ticks a battery lasts. -/
def lasN (c f m u s : Int) (l : List Ld) : Int := if okC c f m u s l then (if sumS l (onL l) = 0 then -1 else c / sumS l (onL l)) else 0
theorem lasts_any (c f m u s : Int) (l : List Ld) (a : Option Addr) (n cp : Nat) (w : World) (hL : Lds w a n cp l) (hn : n ≤ 1000000) :
    Calls Try.prog 19 #[batV c f m u s, .slice a n cp] w fun e w' => e = .returned (.tuple #[.int .i64 (lasN c f m u s l), .int .i64 (chkE c f m u s l)]) ∧ Below w.heap.size w w' := by
  have CA := Lib.hid (fun W h => check_any c f m u s l a n cp W h hn)
  have HL := Lib.hid hL
  unfold batV at CA ⊢
  have q0 : Below w.heap.size w (w.alloc (.cells #[.int .i64 c, .int .i64 f, .int .i64 m, .int .i64 u, .int .i64 s] 23)) := bl_alloc (Below.refl _ _) _
  have Q0 := Lib.hid q0
  cases hok : okC c f m u s l with
  | false =>
    have hl : lasN c f m u s l = 0 := by unfold lasN; rw [hok]; rfl
    rw [chkE_no hok] at CA ⊢
    rw [hl]
    clear hL hok hl q0
    go_enter Try.func19, Try.ntmps19
    go_wp2_with (fail)
    refine (CA.out _ (HL.out.below Q0.out)).mono ?_
    rintro e w1 ⟨rfl, b1⟩
    have B1 := Lib.hid (bl_step Q0.out b1)
    clear b1
    go_wp2_with (fail)
    go_ret2
    exact ⟨rfl, B1.out⟩
  | true =>
    obtain ⟨_, _, _, k4, k5, k6, k7, k8, k9⟩ := okC_parts hok
    have hl : lasN c f m u s l = if sumS l (onL l) = 0 then -1 else c / sumS l (onL l) := by unfold lasN; rw [hok]; rfl
    rw [chkE_ok hok] at CA ⊢
    rw [hl]
    have hb := sumK_bound k9 (onL l) l.length
    have hb2 : 0 ≤ sumS l (onL l) ∧ sumS l (onL l) ≤ 17179869184 := by unfold sumS; omega
    have NA := Lib.hid (fun W h => needed_any l a n cp W h (by have := hL.1; omega) k9)
    obtain ⟨D, hD⟩ : ∃ D, D = sumS l (onL l) := ⟨_, rfl⟩
    rw [← hD] at hb2 NA ⊢
    clear hL hok hl q0 hb hD k9
    by_cases h0 : D = 0
    · subst h0
      rw [if_pos rfl]
      go_enter Try.func19, Try.ntmps19
      go_wp2_with (fail)
      refine (CA.out _ (HL.out.below Q0.out)).mono ?_
      rintro e w1 ⟨rfl, b1⟩
      have B1 := Lib.hid (bl_step Q0.out b1)
      clear b1
      go_wp2_with (fail)
      refine (NA.out _ (HL.out.below B1.out)).mono ?_
      rintro e w2 ⟨rfl, b2⟩
      have B2 := Lib.hid (bl_step B1.out b2)
      clear b2
      go_wp2_with (fail)
      go_ret2
      exact ⟨rfl, B2.out⟩
    · rw [if_neg h0]
      have hne : ((D : Int) == 0) = false := by simpa using h0
      go_enter Try.func19, Try.ntmps19
      go_wp2_with (fail)
      refine (CA.out _ (HL.out.below Q0.out)).mono ?_
      rintro e w1 ⟨rfl, b1⟩
      have hc1 := b1.cell (p := ⟨w.heap.size, 0, none⟩) (by simp)
      rw [cell_of (i := 0) (hp_new w _) rfl] at hc1
      have B1 := Lib.hid (bl_step Q0.out b1)
      have hlt1 : w.heap.size < w1.heap.size := by have := b1.size; simp at this; omega
      clear b1
      go_wp2_with (fail)
      refine (NA.out _ (HL.out.below B1.out)).mono ?_
      rintro e w2 ⟨rfl, b2⟩
      have hc2 : w2.cell? ⟨w.heap.size, 0, none⟩ = some (.int .i64 c) := (b2.cell (p := ⟨w.heap.size, 0, none⟩) hlt1).trans hc1
      have B2 := Lib.hid (bl_step B1.out b2)
      clear b2 hc1
      go_wp2_with (fail)
      go_ret2
      exact ⟨rfl, B2.out⟩
set_option maxHeartbeats 1600000 in
theorem refsum_any (l : List Ld) (S : List Bool) (a : Option Addr) (n c base cap g : Nat) (w : World) (hL : Lds w a n c l) (hn : n ≤ 16) (hd : okD l) (hS : S.length = n) (hO : w.ownsRow base 4 1 (.slice (some ⟨g, 0, none⟩) n cap) n (S.map Value.bool)) :
    Calls Try.prog 25 #[.slice a n c, .slice (some ⟨g, 0, none⟩) n cap] w fun e w' => e = .returned (.int .i64 (sumS l S)) ∧ w = w' := by
  have N1 := Lib.hid hL.1; have HL := Lib.hid hL; have HD := Lib.hid hd
  have hcap := hL.2.1
  have hcap2 := hL.2.2.1
  obtain ⟨_, _, _, hc3, hc4, _⟩ := own_block hO
  have HO := Lib.hid hO
  unfold maxLen at hcap2 hc4
  have hsv : Hid (∀ k, k < n → w.cell? ⟨g, k, none⟩ = some (.bool (sv S k))) := Lib.hid (fun k hk => own_cell HO.out (by
    subst hS
    simp [sv, List.getD_eq_getElem?_getD, hk]))
  have SL := Lib.hid hS
  clear hL hd hO hS
  go_enter Try.func25, Try.ntmps25
  go_wp2_with (fail)
  go_loopw [5, 6] (fun s i wr => ∃ k : Nat, k ≤ n ∧ i = .int .i64 k ∧ s = .int .i64 (sumK l S k) ∧ wr = w) (fun _ i _ => n - (intOf i).toNat)
  case atStart => exact ⟨0, by omega, rfl, rfl, rfl⟩
  case round =>
    obtain ⟨k, hk, rfl, rfl, rfl⟩ := hrel
    by_cases hlt : k < n
    · obtain ⟨b, off, rfl, hbl, c0, c1, c2⟩ := HL.out.2.2.2 k hlt
      obtain ⟨b1, b2⟩ := sumK_bound HD.out S k
      obtain ⟨d1, d2, _, _⟩ := HD.out.at k
      have e1 : sumK l S (k + 1) = sumK l S k + (if sv S k then dr l k else 0) := rfl
      have cs := hsv.out k hlt
      obtain ⟨T, hT⟩ : ∃ T, T = sumK l S k := ⟨_, rfl⟩
      obtain ⟨D, hD⟩ : ∃ D, D = dr l k := ⟨_, rfl⟩
      rw [← hT] at b1 b2 e1 ⊢
      rw [← hD] at d1 d2 e1 c0
      have E1 := Lib.hid e1
      clear hT hD e1 c1 c2
      cases ho : sv S k with
      | true =>
        rw [ho] at cs E1
        clear ho
        go_wp2_with (fail)
        go_roundw
        case rel => exact ⟨k + 1, by omega, by simp, by rw [E1.out]; simp, trivial⟩
        case measure => simp [intOf]; omega
      | false =>
        rw [ho] at cs E1
        clear ho
        go_wp2_with (fail)
        go_roundw
        case rel => exact ⟨k + 1, by omega, by simp, by rw [E1.out]; simp, trivial⟩
        case measure => simp [intOf]; omega
    · obtain rfl : k = n := by omega
      have e1 : sumK l S k = sumS l S := by rw [sumS, ← N1.out]
      rw [e1]
      clear e1
      go_wp2_with (fail)
      go_ret
      exact ⟨rfl, rfl⟩
end Go.Proofs.Ytbdobcmblbojfaa
