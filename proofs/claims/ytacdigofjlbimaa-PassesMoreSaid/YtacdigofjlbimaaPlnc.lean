/-
  Plans, third part: Value and Feasible, the program's and the reference's. Conditions: those that each theorem names.
-/
import Derived.Test.YtacdigofjlbimaaPlnb
namespace Go.Proofs.Ytacdigofjlbimaa
open Go.RowKit Kit
set_option linter.unusedVariables false
/-- What Value returns. -/
def valV (L : List Wn) (P : List Int) : Int := if chkE L 0 0 0 P = 0 then value (wl L) (pl P) else 0
def feaV (L : List Wn) (g b m : Int) (P : List Int) : Bool := decide (chkE L g b m P = 0) && fea (wl L) g b m (pl P)
theorem valV_ok {L : List Wn} {P : List Int} (h : chkE L 0 0 0 P = 0) : valV L P = value (wl L) (pl P) := by unfold valV; rw [if_pos h]
theorem valV_no {L : List Wn} {P : List Int} (h : chkE L 0 0 0 P ≠ 0) : valV L P = 0 := by unfold valV; rw [if_neg h]
theorem feaV_ok {L : List Wn} {g b m : Int} {P : List Int} (h : chkE L g b m P = 0) : feaV L g b m P = fea (wl L) g b m (pl P) := by unfold feaV; rw [h]; simp
theorem feaV_no {L : List Wn} {g b m : Int} {P : List Int} (h : chkE L g b m P ≠ 0) : feaV L g b m P = false := by unfold feaV; simp [h]
section
variable {L : List Wn} {g b m : Int} {P : List Int} {a a' : Option Addr} {n c n' c' : Nat} {w : World}
set_option maxHeartbeats 1600000 in
theorem value_any (hW : WS w a n c L) (hP : NS w a' n' c' P) :
    Calls Try.prog 17 #[.slice a n c, .slice a' n' c'] w fun e w' => e = .returned (.tuple #[.int .i64 (valV L P), .int .i64 (chkE L 0 0 0 P)]) ∧ Below w.heap.size w w' := by
  obtain ⟨R, hR⟩ : ∃ R, Hid (R = valV L P) := ⟨_, Lib.hid rfl⟩
  rw [← hR.out]
  have C := Lib.hid (fun W h h' => checked_any L 0 0 0 P a n c a' n' c' W h h')
  by_cases hE : chkE L 0 0 0 P = 0
  · obtain ⟨e1, e2, e3⟩ := chkE_zero hE
    obtain ⟨f1, f2, f3⟩ := ckE_zero e1
    rw [hE] at C ⊢
    have hR2 := Lib.hid (hR.out.trans (valV_ok hE))
    have N2 := Lib.hid hP.1; have HL := Lib.hid hW; have HP := Lib.hid hP
    rw [← hW.1] at f2 e3
    rw [← hP.1] at e2
    have HV := Lib.hid f2; have HI := Lib.hid e3
    have hcap := hW.2.1
    have hcap2 := hW.2.2.1
    have hcap' := hP.2.1
    have hcap2' := hP.2.2.1
    unfold maxLen at hcap2 hcap2'
    clear hW hP f1 f2 f3 e1 e3 hE hR
    go_enter Try.func17, Try.ntmps17
    go_wp2_with (fail)
    refine (C.out _ HL.out HP.out).mono ?_
    rintro e w1 ⟨rfl, b1⟩
    have B1 := Lib.hid b1
    clear b1 C
    go_wp2_with (fail)
    go_loopw [7, 9, 19] (fun s _ i wr => ∃ k : Nat, k ≤ n' ∧ i = .int .i64 k ∧ s = .int .i64 (vT (wl L) P k) ∧ Below w.heap.size w wr) (fun _ _ i _ => n' - (intOf i).toNat)
    case atStart => exact ⟨0, by omega, rfl, rfl, B1.out⟩
    case round =>
      clear B1
      obtain ⟨k, hk, rfl, rfl, hB⟩ := hrel
      have HB := Lib.hid hB
      clear hB
      by_cases hlt : k < n'
      · obtain ⟨x, bb, off, bb', off', hx, hxn, rfl, rfl, hl, hl', d0, c0, c1, c2, c3, c4⟩ := plan_row HL.out HP.out HI.out HB.out k hlt
        have hbd := (take_bound HV.out HI.out (k + 1) (by rw [← N2.out]; omega)).1
        have Z := Lib.hid (vT_succ (W := wl L) (P := P) (k := k) (by rw [← N2.out]; exact hlt))
        change 0 ≤ vT (wl L) P (k + 1) ∧ vT (wl L) P (k + 1) ≤ _ at hbd
        rw [Z.out] at hbd
        rw [hx] at hbd Z
        simp only [Int.toNat_natCast] at hbd Z
        generalize (wl L x).va = va at c3 hbd Z
        generalize vT (wl L) P k = S at hbd Z ⊢
        have W1 := IntWalk.i64_in (S + va) (by omega)
        clear hbd hx c0 c1 c2 c4
        go_wp2_with (fail)
        go_roundw
        case rel => exact ⟨k + 1, by omega, by simp, by rw [Z.out], HB.out⟩
        case measure => simp [intOf]; omega
      · have hkn : k = n' := by omega
        subst hkn
        have e : vT (wl L) P k = R := by rw [hR2.out, N2.out]; unfold vT; rw [pl_all]
        rw [e]
        clear e
        go_wp2_with (fail)
        go_ret2
        exact ⟨rfl, HB.out⟩
  · have e : R = 0 := hR.out.trans (valV_no hE)
    subst e
    generalize chkE L 0 0 0 P = E at hE C ⊢
    have hb : (E != 0) = true := by simpa using hE
    have HL := Lib.hid hW; have HP := Lib.hid hP
    clear hE hW hP hR
    go_enter Try.func17, Try.ntmps17
    go_wp2_with (fail)
    refine (C.out _ HL.out HP.out).mono ?_
    rintro e w1 ⟨rfl, b1⟩
    go_wp2_with (fail)
    go_ret2
    exact ⟨rfl, b1⟩
set_option maxHeartbeats 1600000 in
theorem rvalueE_any (hW : WS w a n c L) (hP : NS w a' n' c' P) :
    Calls Try.prog 18 #[.slice a n c, .slice a' n' c'] w fun e w' => e = .returned (.tuple #[.int .i64 (valV L P), .int .i64 (chkE L 0 0 0 P)]) ∧ Below w.heap.size w w' := by
  obtain ⟨R, hR⟩ : ∃ R, Hid (R = valV L P) := ⟨_, Lib.hid rfl⟩
  rw [← hR.out]
  have C := Lib.hid (fun W h h' => wrong_any L 0 0 0 P a n c a' n' c' W h h')
  have HL := Lib.hid hW; have HP := Lib.hid hP
  by_cases hE : chkE L 0 0 0 P = 0
  · obtain ⟨e1, e2, e3⟩ := chkE_zero hE
    obtain ⟨f1, f2, f3⟩ := ckE_zero e1
    rw [hE] at C ⊢
    have V := Lib.hid (fun W h h' => rvalue_any L P a n c a' n' c' W h h' (by rw [hW.1]; exact f2) (by rw [hW.1]; exact e3) (by rw [hP.1]; omega))
    rw [← valV_ok hE, ← hR.out] at V
    clear hW hP f1 f2 f3 e1 e3 hE hR
    go_enter Try.func18, Try.ntmps18
    go_wp2_with (fail)
    refine (C.out _ HL.out HP.out).mono ?_
    rintro e w1 ⟨rfl, b1⟩
    have B1 := Lib.hid b1
    clear b1 C
    go_wp2_with (fail)
    refine (V.out _ (HL.out.below B1.out) (HP.out.below B1.out)).mono ?_
    rintro e w2 ⟨rfl, b2⟩
    go_wp2_with (fail)
    go_ret2
    exact ⟨rfl, bl_step B1.out b2⟩
  · have e : R = 0 := hR.out.trans (valV_no hE)
    subst e
    generalize chkE L 0 0 0 P = E at hE C ⊢
    have hb : (E != 0) = true := by simpa using hE
    clear hE hW hP hR
    go_enter Try.func18, Try.ntmps18
    go_wp2_with (fail)
    refine (C.out _ HL.out HP.out).mono ?_
    rintro e w1 ⟨rfl, b1⟩
    go_wp2_with (fail)
    go_ret2
    exact ⟨rfl, b1⟩
end
end Go.Proofs.Ytacdigofjlbimaa
