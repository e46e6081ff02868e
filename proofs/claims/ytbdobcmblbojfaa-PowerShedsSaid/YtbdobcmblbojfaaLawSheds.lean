/-
  The walk of the law on which loads are shed. Conditions: none.
-/
import Derived.Test.YtbdobcmblbojfaaBig
import Derived.Test.YtbdobcmblbojfaaShnb
namespace Go.Proofs.Ytbdobcmblbojfaa
open Go.RowKit Kit Go.Shelf
set_option linter.unusedVariables false
/-- What a good step sheds. -/
theorem Good.shed {c f m u s made : Int} {l : List Ld} {o : List Nat} {S : List Bool} {U P : Int} (h : Good c f m u s made l o S U P) :
    (∀ i, sv S i = true → isOn l i = true) ∧ (∀ i, i < l.length → isOn l i = true → sv S i = false → ∀ k, k < l.length → sv S k = true → bef l i k) ∧
    (∀ i, i < l.length → isOn l i = true → sv S i = false → (∀ k, k < l.length → isOn l k = true → sv S k = false → k = i ∨ bef l k i) → c + made < U + dr l i) := by
  obtain ⟨k1, k2, k3, k4, k5, k6, k7, k8, hd⟩ := okC_parts h.ok
  have hm := h.m0
  have F := shed_facts hd (show 0 ≤ c + made by omega) o (onL l) h.ord.sorted (fun i hi => (h.ord.mem i).1 hi) (fun i hi _ => (h.ord.mem i).2 hi)
  rw [← h.sh] at F
  simp only [sv_onL] at F
  rw [h.us]
  exact ⟨F.2.1, F.2.2.1, F.2.2.2⟩
/-- The last of those that were shed, among the first places; -1: none. -/
def Las (l : List Ld) (S : List Bool) (i : Nat) (x : Int) : Prop :=
  (x = -1 ∧ ∀ j, j < i → isOn l j = true → sv S j = false → False) ∨ ∃ y : Nat, x = (y : Int) ∧ y < i ∧ isOn l y = true ∧ sv S y = false ∧ ∀ j, j < i → isOn l j = true → sv S j = false → j = y ∨ bef l j y
theorem Las.keep {l : List Ld} {S : List Bool} {i : Nat} {x : Int} (h : Las l S i x) (hs : ¬ (isOn l i = true ∧ sv S i = false)) : Las l S (i + 1) x := by
  have key : ∀ j, j < i + 1 → isOn l j = true → sv S j = false → j < i := fun j hj h1 h2 => by
    rcases Nat.lt_succ_iff_lt_or_eq.1 hj with h'' | rfl
    · exact h''
    · exact absurd ⟨h1, h2⟩ hs
  rcases h with ⟨h1, h2⟩ | ⟨y, h1, h2, h3, h4, h5⟩
  · exact .inl ⟨h1, fun j hj ho hv => h2 j (key j hj ho hv) ho hv⟩
  · exact .inr ⟨y, h1, by omega, h3, h4, fun j hj ho hv => h5 j (key j hj ho hv) ho hv⟩
theorem Las.stay {l : List Ld} {S : List Bool} {i y : Nat} (hy : y < i) (h3 : isOn l y = true) (h4 : sv S y = false) (h5 : ∀ j, j < i → isOn l j = true → sv S j = false → j = y ∨ bef l j y) (hb : bef l i y) : Las l S (i + 1) (y : Int) :=
  .inr ⟨y, rfl, by omega, h3, h4, fun j hj ho hv => by
    rcases Nat.lt_succ_iff_lt_or_eq.1 hj with h'' | rfl
    · exact h5 j h'' ho hv
    · exact .inr hb⟩
theorem Las.take {l : List Ld} {S : List Bool} {i : Nat} (h3 : isOn l i = true) (h4 : sv S i = false) (h5 : ∀ j, j < i → isOn l j = true → sv S j = false → bef l j i) : Las l S (i + 1) (i : Int) :=
  .inr ⟨i, rfl, by omega, h3, h4, fun j hj ho hv => by
    rcases Nat.lt_succ_iff_lt_or_eq.1 hj with h'' | rfl
    · exact .inr (h5 j h'' ho hv)
    · exact .inl rfl⟩
set_option maxRecDepth 100000 in
set_option maxHeartbeats 12800000 in
theorem sheds_in (c f m u s made : Int) (a : Option Addr) (n cp : Nat) (l : List Ld) (w : World) (hL : Lds w a n cp l) :
    Calls Try.prog 7 #[batV c f m u s, .int .i64 made, .slice a n cp] w fun e w' => e = .returned (.bool true) ∧ Below w.heap.size w w' := by
  have HL := Lib.hid hL
  have N1 := Lib.hid hL.1
  have hcap := hL.2.1
  have hcap2 := hL.2.2.1
  unfold maxLen at hcap2
  have SA := Lib.hid (fun W h => step_all c f m u s made l a n cp W h)
  have P0 := Lib.hid (BX.new (Below.refl w.heap.size w) c f m u s)
  unfold batV at SA ⊢
  clear hL
  go_enter Try.func7, Try.ntmps7
  go_wp2_with (fail)
  refine (shown_any _).mono ?_
  rintro e W1 ⟨rfl, b1⟩
  have P1 := Lib.hid (P0.out.step b1)
  clear b1 P0
  obtain ⟨c0, c1, c2, c3, c4, cl, cf⟩ := P1.out.cells
  go_wp2_with (fail)
  refine (SA.out _ (HL.out.below P1.out.bl)).mono ?_
  rintro e w3 ⟨b3, hres⟩
  have P3 := Lib.hid (P1.out.step b3)
  clear b3 P1 c0 c1 c2 c3 c4 cl cf SA
  unfold batV at hres
  rcases hres with ⟨_, rfl⟩ | ⟨o, S, U, P, hG, hres⟩
  · go_wp2_with (fail)
    go_ret
    exact ⟨rfl, bl_alloc P3.out.bl _⟩
  · obtain ⟨_, _, _, k4, k5, k6, k7, k8, hd⟩ := okC_parts hG.ok
    obtain ⟨f1, f2, f3, f4, f5, f6⟩ := hG.facts
    have hm0 := hG.m0
    have hm1 := hG.m1
    have HG := Lib.hid hG
    have HD := Lib.hid hd
    have SH := Lib.hid hG.shed
    have US := Lib.hid hG.us
    clear hG hd
    rcases hres with ⟨_, rfl⟩ | ⟨hbig, a', c', rfl, hbs⟩
    · go_wp2_with (fail)
      go_ret
      exact ⟨rfl, bl_alloc P3.out.bl _⟩
    · have hn : n ≤ 16 := by have := N1.out; omega
      have hc3 := hbs.2.1
      have hc4 := hbs.2.2.1
      unfold maxLen at hc4
      obtain ⟨y0, hy0⟩ : ∃ y, y = c + made - U - P := ⟨_, rfl⟩
      obtain ⟨y2, hy2⟩ : ∃ y, y = m + made := ⟨_, rfl⟩
      obtain ⟨y3, hy3⟩ : ∃ y, y = u + U := ⟨_, rfl⟩
      obtain ⟨y4, hy4⟩ : ∃ y, y = s + P := ⟨_, rfl⟩
      rw [← hy0, ← hy2, ← hy3, ← hy4]
      obtain ⟨w5, hw5⟩ : ∃ w5, w5 = w3.alloc (.cells #[.int .i64 y0, .int .i64 f, .int .i64 y2, .int .i64 y3, .int .i64 y4] 23) := ⟨_, rfl⟩
      have P5 := Lib.hid (P3.out.step (bl_alloc (Below.refl _ _) (.cells #[.int .i64 y0, .int .i64 f, .int .i64 y2, .int .i64 y3, .int .i64 y4] 23)))
      have S5 := Lib.hid (hbs.below (bl_alloc (Below.refl _ _) (.cells #[.int .i64 y0, .int .i64 f, .int .i64 y2, .int .i64 y3, .int .i64 y4] 23)))
      clear hbs hbig P3 hy0 hy2 hy3 hy4
      go_wp2_with (fail)
      rw [← hw5] at P5 S5 ⊢
      clear hw5
      have L5 := Lib.hid (HL.out.below P5.out.bl)
      go_loopw [10, 11, 12] (fun xv uv iv wr => ∃ (i : Nat) (x : Int) (q : Nat), i ≤ n ∧ iv = .int .i64 i ∧ xv = .int .i64 x ∧ uv = .int .i64 (sumK l S i) ∧ Las l S i x ∧ wr = w5.drewN q) (fun _ _ iv _ => n - (intOf iv).toNat)
      case atStart => exact ⟨0, -1, 0, by omega, rfl, rfl, rfl, .inl ⟨rfl, fun j hj => by omega⟩, rfl⟩
      case round =>
        obtain ⟨i, x, q, hi, rfl, rfl, rfl, hLa, rfl⟩ := hrel
        have LA := Lib.hid hLa
        clear hLa
        have hbu := sumK_bound HD.out S i
        by_cases hlt : i < n
        · obtain ⟨b, off, rfl, hbl, d0, d1, d2⟩ := L5.out.2.2.2 i hlt
          obtain ⟨b', off', rfl, hbl', e2⟩ := S5.out.2.2.2 i hlt
          obtain ⟨q1, q2, _, _⟩ := HD.out.at i
          have hsum : Hid (sumK l S (i + 1) = sumK l S i + (if sv S i then dr l i else 0)) := Lib.hid rfl
          obtain ⟨T, hT⟩ : ∃ T, T = sumK l S i := ⟨_, rfl⟩
          obtain ⟨D, hD⟩ : ∃ D, D = dr l i := ⟨_, rfl⟩
          obtain ⟨R, hR⟩ : ∃ R, R = rk l i := ⟨_, rfl⟩
          rw [← hT] at hbu hsum ⊢
          rw [← hD] at q1 q2 d0 hsum
          rw [← hR] at d1
          have RR := Lib.hid hR
          clear hT hD hR
          cases hsv : sv S i with
          | true =>
            have hon := SH.out.1 i hsv
            rw [hsv] at e2 hsum
            rw [hon] at d2
            have HSV := Lib.hid hsv
            clear hsv hon
            simp only [if_true] at hsum
            go_wp2_with (fail)
            go_roundw
            case rel => exact ⟨i + 1, x, _, by omega, by simp, rfl, by rw [hsum.out], LA.out.keep (fun h => by rw [HSV.out] at h; cases h.2), rfl⟩
            case measure => simp [intOf]; omega
          | false =>
            rw [hsv] at e2 hsum
            have HSV := Lib.hid hsv
            clear hsv
            simp only [Bool.false_eq_true, if_false, Int.add_zero] at hsum
            cases hon : isOn l i with
            | false =>
              rw [hon] at d2
              have HON := Lib.hid hon
              clear hon
              go_wp2_with (fail)
              go_roundw
              case rel => exact ⟨i + 1, x, _, by omega, by simp, rfl, by rw [hsum.out], LA.out.keep (fun h => by rw [HON.out] at h; cases h.1), rfl⟩
              case measure => simp [intOf]; omega
            | true =>
              rw [hon] at d2
              have HON := Lib.hid hon
              clear hon
              have BEF := Lib.hid (SH.out.2.1 i (by rw [← N1.out]; exact hlt) HON.out HSV.out)
              go_wp2_with (fail)
              go_loopw [13] (fun kv wr => ∃ (k q : Nat), k ≤ n ∧ kv = .int .i64 k ∧ wr = w5.drewN q) (fun kv _ => n - (intOf kv).toNat)
              case atStart => exact ⟨0, _, by omega, rfl, rfl⟩
              case round =>
                obtain ⟨k, q, hk, rfl, rfl⟩ := hrel
                by_cases hlt2 : k < n
                · obtain ⟨b2, off2, e4, _, _, g1, _⟩ := L5.out.2.2.2 k hlt2
                  obtain ⟨b3, off3, e5, hbl3, g2⟩ := S5.out.2.2.2 k hlt2
                  simp only [Option.some.injEq, Addr.mk.injEq, and_true] at e4 e5
                  obtain ⟨rfl, rfl⟩ := e4
                  obtain ⟨rfl, rfl⟩ := e5
                  have hbk : Hid (sv S k = true → bef l i k) := Lib.hid (fun h => BEF.out k (by rw [← N1.out]; exact hlt2) h)
                  obtain ⟨R2, hR2⟩ : ∃ R2, R2 = rk l k := ⟨_, rfl⟩
                  rw [← hR2] at g1
                  have HR2 := Lib.hid hR2
                  clear hR2
                  rcases Int.lt_trichotomy R2 R with h | h | h
                  · have t1 : decide (R2 < R) = true := by simpa using h
                    cases hsk : sv S k with
                    | true =>
                      exfalso
                      have := hbk.out hsk
                      unfold bef at this
                      rw [← RR.out, ← HR2.out] at this
                      omega
                    | false =>
                      rw [hsk] at g2
                      clear hsk h
                      go_wp2_with (fail)
                      go_quiet (fail)
                      go_wp2_with (fail)
                      go_roundw
                      case rel => exact ⟨k + 1, _, by omega, by simp, rfl⟩
                      case measure => simp [intOf]; omega
                  · subst h
                    have t1 : decide (R2 < R2) = false := by simp
                    have t2 : (R2 == R2) = true := by simp
                    by_cases hki : i < k
                    · have t3 : decide ((i : Int) < (k : Int)) = true := by simpa using hki
                      have t4 : decide (i < k) = true := by simpa using hki
                      cases hsk : sv S k with
                      | true =>
                        exfalso
                        have := hbk.out hsk
                        unfold bef at this
                        rw [← RR.out, ← HR2.out] at this
                        omega
                      | false =>
                        rw [hsk] at g2
                        clear hsk hki
                        go_wp2_with (fail)
                        go_quiet (fail)
                        go_wp2_with (fail)
                        go_roundw
                        case rel => exact ⟨k + 1, _, by omega, by simp, rfl⟩
                        case measure => simp [intOf]; omega
                    · have t3 : decide ((i : Int) < (k : Int)) = false := by rw [decide_eq_false_iff_not]; omega
                      have t4 : decide (i < k) = false := by rw [decide_eq_false_iff_not]; omega
                      cases hsk : sv S k with
                      | true =>
                        rw [hsk] at g2
                        clear hsk hki
                        go_wp2_with (fail)
                        go_quiet (fail)
                        go_wp2_with (fail)
                        go_roundw
                        case rel => exact ⟨k + 1, _, by omega, by simp, rfl⟩
                        case measure => simp [intOf]; omega
                      | false =>
                        rw [hsk] at g2
                        clear hsk hki
                        go_wp2_with (fail)
                        go_quiet (fail)
                        go_wp2_with (fail)
                        go_roundw
                        case rel => exact ⟨k + 1, _, by omega, by simp, rfl⟩
                        case measure => simp [intOf]; omega
                  · have t1 : decide (R2 < R) = false := by rw [decide_eq_false_iff_not]; omega
                    have t2 : (R2 == R) = false := by simp; omega
                    cases hsk : sv S k with
                    | true =>
                      rw [hsk] at g2
                      clear hsk h
                      go_wp2_with (fail)
                      go_quiet (fail)
                      go_wp2_with (fail)
                      go_roundw
                      case rel => exact ⟨k + 1, _, by omega, by simp, rfl⟩
                      case measure => simp [intOf]; omega
                    | false =>
                      rw [hsk] at g2
                      clear hsk h
                      go_wp2_with (fail)
                      go_quiet (fail)
                      go_wp2_with (fail)
                      go_roundw
                      case rel => exact ⟨k + 1, _, by omega, by simp, rfl⟩
                      case measure => simp [intOf]; omega
                · obtain rfl : k = n := by omega
                  rcases LA.out with ⟨rfl, hno⟩ | ⟨y, rfl, hy1, hy2, hy3, hy4⟩
                  · have HNO := Lib.hid hno
                    clear hno
                    go_wp2_with (fail)
                    go_quiet (fail)
                    go_wp2_with (fail)
                    go_roundw
                    case rel => exact ⟨i + 1, i, _, by omega, by simp, rfl, by rw [hsum.out], Las.take HON.out HSV.out (fun j hj ho hv => (HNO.out j hj ho hv).elim), rfl⟩
                    case measure => simp [intOf]; omega
                  · obtain ⟨b2, off2, e4, _, _, g1, _⟩ := L5.out.2.2.2 y (by omega)
                    simp only [Option.some.injEq, Addr.mk.injEq, and_true] at e4
                    obtain ⟨rfl, rfl⟩ := e4
                    obtain ⟨R2, hR2⟩ : ∃ R2, R2 = rk l y := ⟨_, rfl⟩
                    rw [← hR2] at g1
                    have HR2 := Lib.hid hR2
                    have HY := Lib.hid (And.intro hy2 (And.intro hy3 hy4))
                    have t0 : decide ((y : Int) < 0) = false := by rw [decide_eq_false_iff_not]; omega
                    clear hR2 hy2 hy3 hy4
                    rcases Int.lt_trichotomy R2 R with h | h | h
                    · have t1 : decide (R2 < R) = true := by simpa using h
                      have hb : Hid (bef l y i) := Lib.hid (by unfold bef; rw [← HR2.out, ← RR.out]; omega)
                      clear h
                      go_wp2_with (fail)
                      go_quiet (fail)
                      go_wp2_with (fail)
                      go_roundw
                      case rel => exact ⟨i + 1, i, _, by omega, by simp, rfl, by rw [hsum.out], Las.take HON.out HSV.out (fun j hj ho hv => by
                                                rcases HY.out.2.2 j hj ho hv with rfl | h''
                                                · exact hb.out
                                                · exact bef_trans h'' hb.out), rfl⟩
                      case measure => simp [intOf]; omega
                    · have hb : Hid (bef l i y) := Lib.hid (by unfold bef; rw [← HR2.out, ← RR.out]; omega)
                      subst h
                      have t1 : decide (R2 < R2) = false := by simp
                      have t2 : (R2 == R2) = true := by simp
                      have t3 : decide ((i : Int) < (y : Int)) = false := by rw [decide_eq_false_iff_not]; omega
                      have t4 : decide (i < y) = false := by rw [decide_eq_false_iff_not]; omega
                      go_wp2_with (fail)
                      go_quiet (fail)
                      go_wp2_with (fail)
                      go_roundw
                      case rel => exact ⟨i + 1, y, _, by omega, by simp, rfl, by rw [hsum.out], Las.stay hy1 HY.out.1 HY.out.2.1 HY.out.2.2 hb.out, rfl⟩
                      case measure => simp [intOf]; omega
                    · have t1 : decide (R2 < R) = false := by rw [decide_eq_false_iff_not]; omega
                      have t2 : (R2 == R) = false := by simp; omega
                      have hb : Hid (bef l i y) := Lib.hid (by unfold bef; rw [← HR2.out, ← RR.out]; omega)
                      clear h
                      go_wp2_with (fail)
                      go_quiet (fail)
                      go_wp2_with (fail)
                      go_roundw
                      case rel => exact ⟨i + 1, y, _, by omega, by simp, rfl, by rw [hsum.out], Las.stay hy1 HY.out.1 HY.out.2.1 HY.out.2.2 hb.out, rfl⟩
                      case measure => simp [intOf]; omega
        · obtain rfl : i = n := by omega
          have e1 : sumK l S i = U := by rw [US.out, sumS, ← N1.out]
          rw [e1]
          clear e1 hbu
          obtain ⟨c0, c1, c2, c3, c4, cl, cf⟩ := P5.out.cells
          have hw1 : IntKind.i64.wrap (c + made) = c + made := IntWalk.i64_in _ (by omega)
          rcases LA.out with ⟨rfl, hno⟩ | ⟨y, rfl, hy1, hy2, hy3, hy4⟩
          · clear hno
            go_wp2_with (fail)
            go_quiet (fail)
            go_wp2_with (fail)
            go_ret
            exact ⟨rfl, below_drewN (below_drewN P5.out.bl _) _⟩
          · obtain ⟨b2, off2, rfl, hbl2, g0, _, _⟩ := L5.out.2.2.2 y hy1
            have hgt := SH.out.2.2 y (by rw [← N1.out]; exact hy1) hy2 hy3 (fun k hk ho hv => hy4 k (by rw [N1.out]; exact hk) ho hv)
            obtain ⟨q1, q2, _, _⟩ := HD.out.at y
            obtain ⟨D, hD⟩ : ∃ D, D = dr l y := ⟨_, rfl⟩
            rw [← hD] at g0 hgt q1 q2
            have t0 : decide ((y : Int) < 0) = false := by rw [decide_eq_false_iff_not]; omega
            have hw2 : IntKind.i64.wrap (U + D) = U + D := IntWalk.i64_in _ (by omega)
            have t1 : decide (c + made < U + D) = true := by simpa using hgt
            clear hD hy2 hy3 hy4 hgt
            go_wp2_with (fail)
            go_quiet (fail)
            go_wp2_with (fail)
            go_ret
            exact ⟨rfl, below_drewN (below_drewN P5.out.bl _) _⟩
theorem PowerSheds_walk (a0_0 : Int) (a0_1 : Int) (a0_2 : Int) (a0_3 : Int) (a0_4 : Int) (a1 : Int) (a2 : Value) (w : World) (w0_0 : (Lit.int .i64 a0_0).wf = true) (w0_1 : (Lit.int .i64 a0_1).wf = true) (w0_2 : (Lit.int .i64 a0_2).wf = true) (w0_3 : (Lit.int .i64 a0_3).wf = true) (w0_4 : (Lit.int .i64 a0_4).wf = true) (w1 : (Lit.int .i64 a1).wf = true) (w2 : Kit.SlIn [.inl .i64, .inl .i64, .inr false] w a2) :
    Calls Try.prog 7 #[.agg #[.int .i64 a0_0, .int .i64 a0_1, .int .i64 a0_2, .int .i64 a0_3, .int .i64 a0_4], .int .i64 a1, a2] w fun e w' => e = .returned (.bool true) ∧ Below w.heap.size w w' := by
  obtain ⟨a, n, c, l, rfl, hL, _, _⟩ := slIn_lds w2
  exact sheds_in a0_0 a0_1 a0_2 a0_3 a0_4 a1 a n c l w hL
end Go.Proofs.Ytbdobcmblbojfaa
