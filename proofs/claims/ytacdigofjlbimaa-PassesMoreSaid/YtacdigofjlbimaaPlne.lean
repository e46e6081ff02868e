/-
  Plans, fifth part: Feasible, the program's and the reference's. Conditions: those that each theorem names.
-/
import Derived.Test.YtacdigofjlbimaaPlnd
namespace Go.Proofs.Ytacdigofjlbimaa
open Go.RowKit Kit
set_option linter.unusedVariables false
section
variable {L : List Wn} {g b m : Int} {P : List Int} {a a' : Option Addr} {n c n' c' : Nat} {w : World}
set_option maxHeartbeats 1600000 in
theorem rfeasible_any (hW : WS w a n c L) (hP : NS w a' n' c' P) :
    Calls Try.prog 16 #[.slice a n c, .agg #[.int .i64 g, .int .i64 b, .int .i64 m], .slice a' n' c'] w fun e w' => e = .returned (.tuple #[.bool (feaV L g b m P), .int .i64 (chkE L g b m P)]) ∧ Below w.heap.size w w' := by
  obtain ⟨R, hR⟩ : ∃ R, Hid (R = feaV L g b m P) := ⟨_, Lib.hid rfl⟩
  rw [← hR.out]
  have C := Lib.hid (fun W h h' => wrong_any L g b m P a n c a' n' c' W h h')
  have HL := Lib.hid hW; have HP := Lib.hid hP
  have B0 := Lib.hid (bl_alloc (Below.refl w.heap.size w) (.cells #[.int .i64 g, .int .i64 b, .int .i64 m] 24))
  by_cases hE : chkE L g b m P = 0
  · obtain ⟨e1, e2, e3⟩ := chkE_zero hE
    obtain ⟨f1, f2, f3⟩ := ckE_zero e1
    rw [hE] at C ⊢
    have V := Lib.hid (fun W (h : WS W a n c L) (h' : NS W a' n' c' P) => rfeas_any (g := g) (b := b) (m := m) h h' (by rw [hW.1]; exact f2) (by rw [hW.1]; exact e3) (by rw [hP.1]; omega) ⟨f3.1, f3.2.1⟩)
    rw [← feaV_ok hE, ← hR.out] at V
    clear hW hP f1 f2 f3 e1 e3 hE hR
    go_enter Try.func16, Try.ntmps16
    go_wp2_with (fail)
    refine (C.out _ (HL.out.below B0.out) (HP.out.below B0.out)).mono ?_
    rintro e w1 ⟨rfl, b1⟩
    have B1 := Lib.hid (bl_go B0.out b1 (by simp))
    have O1 := Lib.hid (below_keeps b1 (hp_new w (.cells #[.int .i64 g, .int .i64 b, .int .i64 m] 24)) (by simp))
    have r0 : w1.cell? ⟨w.heap.size, 0, none⟩ = some (.int .i64 g) := cell_of O1.out rfl
    have r1 : w1.cell? ⟨w.heap.size, 1, none⟩ = some (.int .i64 b) := cell_of O1.out rfl
    have r2 : w1.cell? ⟨w.heap.size, 2, none⟩ = some (.int .i64 m) := cell_of O1.out rfl
    have rl := lt_of_obj O1.out
    clear b1 C
    go_wp2_with (fail)
    refine (V.out _ (HL.out.below B1.out) (HP.out.below B1.out)).mono ?_
    rintro e w2 ⟨rfl, b2⟩
    have B2 := Lib.hid (bl_step B1.out b2)
    clear b2 r0 r1 r2 rl
    go_wp2_with (fail)
    go_ret2
    exact ⟨rfl, B2.out⟩
  · have e : R = false := hR.out.trans (feaV_no hE)
    subst e
    generalize chkE L g b m P = E at hE C ⊢
    have hb : (E == 0) = false := by simpa using hE
    clear hE hW hP hR
    go_enter Try.func16, Try.ntmps16
    go_wp2_with (fail)
    refine (C.out _ (HL.out.below B0.out) (HP.out.below B0.out)).mono ?_
    rintro e w1 ⟨rfl, b1⟩
    have B1 := Lib.hid (bl_go B0.out b1 (by simp))
    clear b1
    go_wp2_with (fail)
    go_ret2
    exact ⟨rfl, B1.out⟩
set_option maxHeartbeats 3200000 in
theorem feasible_any (hW : WS w a n c L) (hP : NS w a' n' c' P) :
    Calls Try.prog 15 #[.slice a n c, .agg #[.int .i64 g, .int .i64 b, .int .i64 m], .slice a' n' c'] w fun e w' => e = .returned (.tuple #[.bool (feaV L g b m P), .int .i64 (chkE L g b m P)]) ∧ Below w.heap.size w w' := by
  obtain ⟨R, hR⟩ : ∃ R, Hid (R = feaV L g b m P) := ⟨_, Lib.hid rfl⟩
  rw [← hR.out]
  have C := Lib.hid (fun W h h' => checked_any L g b m P a n c a' n' c' W h h')
  have HL := Lib.hid hW; have HP := Lib.hid hP
  have B0 := Lib.hid (bl_alloc (Below.refl w.heap.size w) (.cells #[.int .i64 g, .int .i64 b, .int .i64 m] 24))
  by_cases hE : chkE L g b m P = 0
  · obtain ⟨e1, e2, e3⟩ := chkE_zero hE
    obtain ⟨f1, f2, f3⟩ := ckE_zero e1
    rw [hE] at C ⊢
    have N2 := Lib.hid hP.1
    rw [← hW.1] at f2 e3
    rw [← hP.1] at e2
    have HV := Lib.hid f2; have HI := Lib.hid e3
    have hcap := hW.2.1
    have hcap2 := hW.2.2.1
    have hcap' := hP.2.1
    have hcap2' := hP.2.2.1
    unfold maxLen at hcap2 hcap2'
    have g1 := f3.1
    have g2 := f3.2.1
    have hR2 := Lib.hid (hR.out.trans (feaV_ok hE))
    clear hW hP f1 f2 f3 e1 e3 hE hR
    go_enter Try.func15, Try.ntmps15
    go_wp2_with (fail)
    refine (C.out _ (HL.out.below B0.out) (HP.out.below B0.out)).mono ?_
    rintro e w1 ⟨rfl, b1⟩
    have B1 := Lib.hid (bl_go B0.out b1 (by simp))
    have O1 := Lib.hid (below_keeps b1 (hp_new w (.cells #[.int .i64 g, .int .i64 b, .int .i64 m] 24)) (by simp))
    clear b1 C
    go_wp2_with (fail)
    go_loopw [9, 10, 11, 21] (fun s _ _ i wr => ∃ k : Nat, k ≤ n' ∧ i = .int .i64 k ∧ s = .int .i64 (cT (wl L) P k) ∧ chT (wl L) g P k = true ∧ Below w.heap.size w wr ∧ wr.heap[w.heap.size]? = some (.cells #[.int .i64 g, .int .i64 b, .int .i64 m] 24)) (fun _ _ _ i _ => n' - (intOf i).toNat)
    case atStart => exact ⟨0, by omega, rfl, rfl, chT_zero _ _ _, B1.out, O1.out⟩
    case round =>
      clear B1 O1
      obtain ⟨k, hk, rfl, rfl, hch, hB, hO⟩ := hrel
      have HB := Lib.hid hB; have HO := Lib.hid hO; have HC := Lib.hid hch
      have r0 : wr.cell? ⟨w.heap.size, 0, none⟩ = some (.int .i64 g) := cell_of hO rfl
      have r1 : wr.cell? ⟨w.heap.size, 1, none⟩ = some (.int .i64 b) := cell_of hO rfl
      have r2 : wr.cell? ⟨w.heap.size, 2, none⟩ = some (.int .i64 m) := cell_of hO rfl
      have rl := lt_of_obj hO
      clear hB hO hch
      by_cases hlt : k < n'
      · obtain ⟨x, bb, off, bb', off', hx, hxn, rfl, rfl, hl, hl', d0, c0, c1, c2, c3, c4⟩ := plan_row HL.out HP.out HI.out HB.out k hlt
        have hbd := plan_cost HV.out HI.out (k := k) (by rw [← N2.out]; omega)
        have Z := Lib.hid (cT_succ (W := wl L) (P := P) (k := k) (by rw [← N2.out]; exact hlt))
        rw [Z.out] at hbd
        rw [hx] at hbd Z
        simp only [Int.toNat_natCast] at hbd Z
        obtain ⟨X, hX⟩ : ∃ X, Hid (X = wl L x) := ⟨_, Lib.hid rfl⟩
        have HXX := Lib.hid hx
        rw [← hX.out] at c0 c1 c2 c3 c4 hbd Z
        obtain ⟨fr, tt, st, va, co⟩ := X
        simp only at c0 c1 c2 c3 c4 hbd Z
        generalize cT (wl L) P k = S at hbd Z ⊢
        have W1 := IntWalk.i64_in (S + co) (by omega)
        have HW4 : Hid (WC wr bb (off + x * 5) ⟨fr, tt, st, va, co⟩) := Lib.hid ⟨c0, c1, c2, c3, c4⟩
        clear hbd hx
        by_cases hz : k = 0
        · have hk0 : decide ((0 : Int) < (k : Int)) = false := by simp [hz]
          have hk0n : decide (0 < k) = false := by simp [hz]
          have CH1 : Hid (chT (wl L) g P (k + 1) = true) := Lib.hid (by rw [hz]; exact chT_one (by rw [← N2.out]; omega))
          clear hz
          go_wp2_with (fail)
          go_quiet (fail)
          go_wp2_with (fail)
          go_roundw
          case rel => exact ⟨k + 1, by omega, by simp, by rw [Z.out], CH1.out, below_drewN HB.out _, hp_drewN HO.out _⟩
          case measure => simp [intOf]; omega
        · obtain ⟨k0, rfl⟩ : ∃ k0, k = k0 + 1 := ⟨k - 1, by omega⟩
          clear hz
          obtain ⟨y, b2, o2, b2', o2', hy, hyn, e1, e2, _, _, q0, p0, p1, p2, p3, p4⟩ := plan_row HL.out HP.out HI.out HB.out k0 (by omega)
          simp only [Option.some.injEq, Addr.mk.injEq, and_true] at e1 e2
          obtain ⟨rfl, rfl⟩ := e1
          obtain ⟨rfl, rfl⟩ := e2
          have hvy := HV.out y hyn
          have CH := Lib.hid (chT_succ (W := wl L) (gap := g) (P := P) (k := k0) (by rw [← N2.out]; exact hlt))
          rw [HC.out, hy, HXX.out] at CH
          simp only [Int.toNat_natCast, Bool.true_and] at CH
          obtain ⟨Y, hY⟩ : ∃ Y, Hid (Y = wl L y) := ⟨_, Lib.hid rfl⟩
          rw [← hX.out, ← hY.out] at CH
          rw [← hY.out] at p0 p1 p2 p3 p4 hvy
          have FO := Lib.hid (fun W => follows_any Y ⟨fr, tt, st, va, co⟩ g W (by unfold vW at hvy; omega) ⟨g1, g2⟩)
          obtain ⟨T, hT⟩ : ∃ T, Hid (T = fol Y ⟨fr, tt, st, va, co⟩ g) := ⟨_, Lib.hid rfl⟩
          rw [← hT.out] at FO CH
          obtain ⟨fr', tt', st', va', co'⟩ := Y
          simp only at p0 p1 p2 p3 p4
          have hk0 : decide ((0 : Int) < ((k0 + 1 : Nat) : Int)) = true := by simp
          have hkm : IntKind.i64.wrap (((k0 + 1 : Nat) : Int) - 1) = (k0 : Int) := by rw [show (((k0 + 1 : Nat) : Int) - 1) = (k0 : Int) by omega]; exact IntWalk.i64_in _ (by omega)
          obtain ⟨K, hK⟩ : ∃ K : Int, Hid (K = ((k0 + 1 : Nat) : Int)) := ⟨_, Lib.hid rfl⟩
          have hkl : k0 < n' := by omega
          have HK : Hid (K = (k0 : Int) + 1) := Lib.hid (by rw [hK.out]; simp)
          clear hy hvy
          cases T with
          | true =>
            go_wp2_with (fail)
            refine region_calm (by kernel_rfl) (by kernel_rfl) ?_
            repeat (go_big_quiet_step ((go_at_call 31; exact calm_of (FO.out _))))
            refine wpQuiet_nil ?_; intro w4 hw'; have hb4 := below_of_ext hw'; clear hw'
            have B4 := Lib.hid (bl_step HB.out hb4)
            have O4 := Lib.hid (below_keeps hb4 HO.out rl)
            obtain ⟨z0, z1, z2, z3, z4⟩ := HW4.out.keep (keep_below hb4)
            simp only at z0 z1 z2 z3 z4
            have hl4 := Nat.lt_of_lt_of_le hl hb4.size
            clear c0 c1 c2 c3 c4 p0 p1 p2 p3 p4 d0 q0 r0 r1 r2 rl hb4
            go_wp2_with (fail)
            go_roundw
            case rel => exact ⟨k0 + 1 + 1, by omega, by simp, by rw [Z.out], CH.out, B4.out, O4.out⟩
            case measure => simp [intOf]; omega
          | false =>
            have e : R = false := by
              rw [hR2.out]
              exact fea_no (k := k0 + 1 + 1) CH.out
            subst e
            go_wp2_with (fail)
            refine region_calm (by kernel_rfl) (by kernel_rfl) ?_
            repeat (go_big_quiet_step ((go_at_call 31; exact calm_of (FO.out _))))
            refine wpQuiet_nil ?_; intro w4 hw'; have hb4 := below_of_ext hw'; clear hw'
            have B4 := Lib.hid (bl_step HB.out hb4)
            clear c0 c1 c2 c3 c4 p0 p1 p2 p3 p4 d0 q0 r0 r1 r2 rl hb4
            go_wp2_with (fail)
            go_ret2
            exact ⟨rfl, B4.out⟩
      · have hkn : k = n' := by omega
        subst hkn
        have e := hR2.out.trans (fea_at N2.out HC.out)
        generalize cT (wl L) P k = S at e ⊢
        by_cases h1 : S ≤ b
        · have hd1 : decide (S ≤ b) = true := by simpa using h1
          rw [hd1, Bool.true_and] at e
          subst e
          clear h1
          go_wp2_with (fail)
          go_ret2
          exact ⟨rfl, HB.out⟩
        · have hd1 : decide (S ≤ b) = false := by simpa using h1
          rw [hd1, Bool.false_and] at e
          subst e
          clear h1
          go_wp2_with (fail)
          go_ret2
          exact ⟨rfl, HB.out⟩
  · have e : R = false := hR.out.trans (feaV_no hE)
    subst e
    generalize chkE L g b m P = E at hE C ⊢
    have hb : (E != 0) = true := by simpa using hE
    clear hE hW hP hR
    go_enter Try.func15, Try.ntmps15
    go_wp2_with (fail)
    refine (C.out _ (HL.out.below B0.out) (HP.out.below B0.out)).mono ?_
    rintro e w1 ⟨rfl, b1⟩
    have B1 := Lib.hid (bl_go B0.out b1 (by simp))
    clear b1
    go_wp2_with (fail)
    go_ret2
    exact ⟨rfl, B1.out⟩
end
end Go.Proofs.Ytacdigofjlbimaa
