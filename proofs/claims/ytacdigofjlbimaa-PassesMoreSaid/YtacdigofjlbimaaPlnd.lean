/-
  Plans, fourth part: Feasible, the program's and the reference's. Conditions: those that each theorem names.
-/
import Derived.Test.YtacdigofjlbimaaPlnc
namespace Go.Proofs.Ytacdigofjlbimaa
open Go.RowKit Kit
set_option linter.unusedVariables false
theorem fea_at {W : Nat → Wn} {g b m : Int} {P : List Int} {n' : Nat} (hn : n' = P.length) (h : chT W g P n' = true) : fea W g b m (pl P) = (decide (cT W P n' ≤ b) && decide ((n' : Int) ≤ m)) := by
  subst hn
  unfold fea cT
  rw [← chT_all, h, pl_all, pl_len]
  simp
theorem fea_no {W : Nat → Wn} {g b m : Int} {P : List Int} {k : Nat} (h : chT W g P k = false) : fea W g b m (pl P) = false := by
  unfold fea
  rw [chT_mono h]
  simp
section
variable {L : List Wn} {g b m : Int} {P : List Int} {a a' : Option Addr} {n c n' c' : Nat} {w : World}
/-- What a round knows of the plan's k-th window. -/
theorem plan_cost {k : Nat} (HV : vL (wl L) n) (HI : inP P n) (hk : k + 1 ≤ P.length) : (0 ≤ cT (wl L) P (k + 1) ∧ cT (wl L) P (k + 1) ≤ (k + 1 : Nat) * 1000) := (take_bound HV HI (k + 1) hk).2
set_option maxHeartbeats 3200000 in
theorem rfeas_any (hW : WS w a n c L) (hP : NS w a' n' c' P) (hv : vL (wl L) n) (hi : inP P n) (h40 : n' ≤ 10000) (hg : 0 ≤ g ∧ g ≤ 1099511627776) :
    Calls Try.prog 33 #[.slice a n c, .agg #[.int .i64 g, .int .i64 b, .int .i64 m], .slice a' n' c'] w fun e w' => e = .returned (.bool (fea (wl L) g b m (pl P))) ∧ Below w.heap.size w w' := by
  obtain ⟨R, hR⟩ : ∃ R, Hid (R = fea (wl L) g b m (pl P)) := ⟨_, Lib.hid rfl⟩
  rw [← hR.out]
  have N2 := Lib.hid hP.1; have HL := Lib.hid hW; have HP := Lib.hid hP; have HV := Lib.hid hv; have HI := Lib.hid hi
  have hcap := hW.2.1
  have hcap2 := hW.2.2.1
  have hcap' := hP.2.1
  have hcap2' := hP.2.2.1
  unfold maxLen at hcap2 hcap2'
  obtain ⟨g1, g2⟩ := hg
  clear hW hP hv hi
  go_enter Try.func33, Try.ntmps33
  go_wp2_with (fail)
  go_loopw [7, 8, 9, 10] (fun s i _ _ wr => ∃ k : Nat, k ≤ n' ∧ i = .int .i64 k ∧ s = .int .i64 (cT (wl L) P k) ∧ chT (wl L) g P k = true ∧ Below w.heap.size w wr ∧ wr.heap[w.heap.size]? = some (.cells #[.int .i64 g, .int .i64 b, .int .i64 m] 24)) (fun _ i _ _ _ => n' - (intOf i).toNat)
  case atStart => exact ⟨0, by omega, rfl, rfl, chT_zero _ _ _, bl_alloc (Below.refl _ _) _, hp_new w _⟩
  case round =>
    obtain ⟨k, hk, rfl, rfl, hch, hB, hO⟩ := hrel
    have HB := Lib.hid hB; have HO := Lib.hid hO; have HC := Lib.hid hch
    have r0 : wr.cell? ⟨w.heap.size, 0, none⟩ = some (.int .i64 g) := cell_of hO rfl
    have r1 : wr.cell? ⟨w.heap.size, 1, none⟩ = some (.int .i64 b) := cell_of hO rfl
    have r2 : wr.cell? ⟨w.heap.size, 2, none⟩ = some (.int .i64 m) := cell_of hO rfl
    have rl := lt_of_obj hO
    clear hB hO hch
    by_cases hlt : k < n'
    · obtain ⟨x, bb, off, bb', off', hx, hxn, rfl, rfl, hl, hl', d0, c0, c1, c2, c3, c4⟩ := plan_row HL.out HP.out HI.out HB.out k hlt
      have hbd := plan_cost HV.out HI.out (k := k) (by rw [← N2.out]; omega)
      have Z := Lib.hid (cT_succ (W := wl L) (P := P) (k := k) (by rw [← N2.out]; exact hlt))
      rw [Z.out] at hbd
      rw [hx] at hbd Z
      simp only [Int.toNat_natCast] at hbd Z
      have hvx := HV.out x hxn
      obtain ⟨X, hX⟩ : ∃ X, Hid (X = wl L x) := ⟨_, Lib.hid rfl⟩
      have HXX := Lib.hid hx
      rw [← hX.out] at c0 c1 c2 c3 c4 hbd Z hvx
      obtain ⟨fr, tt, st, va, co⟩ := X
      unfold vW at hvx
      simp only at c0 c1 c2 c3 c4 hbd Z hvx
      obtain ⟨v1, v2, v3, v4, v5, v6, v7, v8, v9⟩ := hvx
      generalize cT (wl L) P k = S at hbd Z ⊢
      have W1 := IntWalk.i64_in (S + co) (by omega)
      clear hbd hx
      by_cases hz : k = 0
      · have hk0 : ((k : Int) == 0) = true := by simp [hz]
        have CH1 : Hid (chT (wl L) g P (k + 1) = true) := Lib.hid (by rw [hz]; exact chT_one (by rw [← N2.out]; omega))
        clear hz
        go_wp2_with (fail)
        go_roundw
        case rel => exact ⟨k + 1, by omega, by simp, by rw [Z.out], CH1.out, bl_alloc HB.out _, hp_old HO.out _⟩
        case measure => simp [intOf]; omega
      · obtain ⟨k0, rfl⟩ : ∃ k0, k = k0 + 1 := ⟨k - 1, by omega⟩
        clear hz
        obtain ⟨y, b2, o2, b2', o2', hy, hyn, e1, e2, _, _, q0, p0, p1, p2, p3, p4⟩ := plan_row HL.out HP.out HI.out HB.out k0 (by omega)
        simp only [Option.some.injEq, Addr.mk.injEq, and_true] at e1 e2
        obtain ⟨rfl, rfl⟩ := e1
        obtain ⟨rfl, rfl⟩ := e2
        have hvy := HV.out y hyn
        have CH := Lib.hid (chT_succ (W := wl L) (gap := g) (P := P) (k := k0) (by rw [← N2.out]; exact hlt))
        rw [HC.out, hy, HXX.out] at CH
        simp only [Int.toNat_natCast, Bool.true_and] at CH
        obtain ⟨Y, hY⟩ : ∃ Y, Hid (Y = wl L y) := ⟨_, Lib.hid rfl⟩
        rw [← hX.out, ← hY.out] at CH
        rw [← hY.out] at p0 p1 p2 p3 p4 hvy
        obtain ⟨fr', tt', st', va', co'⟩ := Y
        unfold vW at hvy
        simp only at p0 p1 p2 p3 p4 hvy
        obtain ⟨u1, u2, u3, u4, u5, u6, u7, u8, u9⟩ := hvy
        have W2 := IntWalk.i64_in (tt' + g) (by omega)
        have hk0 : (((k0 + 1 : Nat) : Int) == 0) = false := by simp; omega
        have CH2 : Hid (chT (wl L) g P (k0 + 1 + 1) = decide (tt' + (if st' = st then 0 else g) ≤ fr)) := Lib.hid CH.out
        clear hy CH
        have hkl : k0 < n' := by omega
        by_cases h1 : fr < tt'
        · have e : R = false := by
            rw [hR.out]
            refine fea_no (k := k0 + 1 + 1) ?_
            rw [CH2.out, decide_eq_false]
            split <;> omega
          subst e
          go_wp2_with (fail)
          go_ret
          exact ⟨rfl, bl_alloc (bl_alloc HB.out _) _⟩
        · have hd1 : decide (fr < tt') = false := by simp; omega
          by_cases hs : st = st'
          · subst hs
            have CH3 : Hid (chT (wl L) g P (k0 + 1 + 1) = true) := Lib.hid (by rw [CH2.out, if_pos rfl]; simp; omega)
            clear h1
            go_wp2_with (fail)
            go_roundw
            case rel => exact ⟨k0 + 1 + 1, by omega, by simp, by rw [Z.out], CH3.out, bl_alloc (bl_alloc HB.out _) _, hp_old (hp_old HO.out _) _⟩
            case measure => simp [intOf]; omega
          · have hne : (st != st') = true := by simpa using hs
            by_cases h2 : fr < tt' + g
            · have e : R = false := by
                rw [hR.out]
                refine fea_no (k := k0 + 1 + 1) ?_
                rw [CH2.out, decide_eq_false]
                rw [if_neg (fun h => hs h.symm)]; omega
              subst e
              clear h1 hs
              go_wp2_with (fail)
              go_ret
              exact ⟨rfl, bl_alloc (bl_alloc HB.out _) _⟩
            · have hd2 : decide (fr < tt' + g) = false := by simp; omega
              have CH3 : Hid (chT (wl L) g P (k0 + 1 + 1) = true) := Lib.hid (by rw [CH2.out, if_neg (fun h => hs h.symm)]; simp; omega)
              clear h1 h2 hs
              go_wp2_with (fail)
              go_roundw
              case rel => exact ⟨k0 + 1 + 1, by omega, by simp, by rw [Z.out], CH3.out, bl_alloc (bl_alloc HB.out _) _, hp_old (hp_old HO.out _) _⟩
              case measure => simp [intOf]; omega
    · have hkn : k = n' := by omega
      subst hkn
      have e := hR.out.trans (fea_at N2.out HC.out)
      generalize cT (wl L) P k = S at e ⊢
      by_cases h1 : S ≤ b
      · have hd1 : decide (S ≤ b) = true := by simpa using h1
        rw [hd1, Bool.true_and] at e
        subst e
        clear h1
        go_wp2_with (fail)
        go_ret
        exact ⟨rfl, HB.out⟩
      · have hd1 : decide (S ≤ b) = false := by simpa using h1
        rw [hd1, Bool.false_and] at e
        subst e
        clear h1
        go_wp2_with (fail)
        go_ret
        exact ⟨rfl, HB.out⟩
end
end Go.Proofs.Ytacdigofjlbimaa
