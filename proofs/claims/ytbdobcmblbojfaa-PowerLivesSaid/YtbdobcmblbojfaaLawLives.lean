/-
  The walk of the law that a battery lasts as long as Lasts says. Conditions: none.
-/
import Derived.Test.YtbdobcmblbojfaaBig
import Derived.Test.YtbdobcmblbojfaaShnb
namespace Go.Proofs.Ytbdobcmblbojfaa
open Go.RowKit Kit Go.Shelf
set_option linter.unusedVariables false
/-- What holds at the head of the loop over the ticks. -/
structure LvI (w : World) (c f m u s D N : Int) (l : List Ld) (i : Nat) (X : Int) (wr : World) : Prop where
  bx : BX w w.heap.size (c - X) f m (u + X) s wr
  ok : okC (c - X) f m (u + X) s l = true
  mul : X = i * D
  lim : (i : Int) ≤ mx N 5 + 1
  low : 0 ≤ N → (i : Int) ≤ N
set_option maxRecDepth 100000 in
set_option maxHeartbeats 6400000 in
theorem lives_in (c f m u s : Int) (a : Option Addr) (n cp : Nat) (l : List Ld) (w : World) (hL : Lds w a n cp l) (hok : okC c f m u s l = true) (hN : lasN c f m u s l ≤ 300) :
    Calls Try.prog 8 #[batV c f m u s, .slice a n cp] w fun e w' => e = .returned (.bool true) ∧ Below w.heap.size w w' := by
  obtain ⟨_, _, _, k4, k5, k6, k7, k8, hd⟩ := okC_parts hok
  have HL := Lib.hid hL
  have N1 := Lib.hid hL.1
  have hn : n ≤ 16 := by have := hL.1; omega
  have hcap := hL.2.1
  have hcap2 := hL.2.2.1
  unfold maxLen at hcap2
  have LA := Lib.hid (fun W h => lasts_any c f m u s l a n cp W h (by omega))
  rw [chkE_ok hok] at LA
  have SA := Lib.hid (fun x y W h => step_any x f m y s 0 l a n cp W h (by omega))
  obtain ⟨N, hNe⟩ : ∃ N, N = lasN c f m u s l := ⟨_, rfl⟩
  obtain ⟨D, hDe⟩ : ∃ D, D = sumS l (onL l) := ⟨_, rfl⟩
  have hD0 : 0 ≤ D := by rw [hDe]; exact (sumK_bound hd _ _).1
  have hND : N = if D = 0 then -1 else c / D := by rw [hNe, lasN, hok, ← hDe]; rfl
  have hN1 : -1 ≤ N ∧ N ≤ 300 := by
    refine ⟨?_, by omega⟩
    rw [hND]; split
    · omega
    · have := Int.ediv_nonneg k6 hD0; omega
  have HND := Lib.hid hND
  have HDE := Lib.hid hDe
  have HD0 := Lib.hid hD0
  have KC := Lib.hid k6
  rw [← hNe] at LA
  have gmx := fun w => run_max_mx Try.prog w #[2, 2] 2 .i64 .i64 N 5
  obtain ⟨Mx, hMx⟩ : ∃ Mx, Mx = mx N 5 := ⟨_, rfl⟩
  have hM1 : Mx ≤ 300 ∧ N ≤ Mx ∧ 5 ≤ Mx := by rw [hMx]; unfold mx; omega
  have HMX := Lib.hid hMx
  rw [← hMx] at gmx
  have P0 := Lib.hid (BX.new (Below.refl w.heap.size w) c f m u s)
  have HOK := Lib.hid hok
  unfold batV at LA SA ⊢
  clear hL hok hd hNe hDe hND hN hMx hD0 k4 k5 k6 k7 k8
  go_enter Try.func8, Try.ntmps8
  go_wp2_with (fail)
  refine (shown_any _).mono ?_
  rintro e W1 ⟨rfl, b1⟩
  have P1 := Lib.hid (P0.out.step b1)
  clear b1 P0
  obtain ⟨c0, c1, c2, c3, c4, cl, cf⟩ := P1.out.cells
  go_wp2_with (fail)
  refine (LA.out _ (HL.out.below P1.out.bl)).mono ?_
  rintro e W2 ⟨rfl, b2⟩
  have P2 := Lib.hid (P1.out.step b2)
  clear b2 P1 c0 c1 c2 c3 c4 cl cf
  have I0 : Hid (LvI w c f m u s D N l 0 0 W2) := Lib.hid ⟨by rw [Int.sub_zero, Int.add_zero]; exact P2.out, by rw [Int.sub_zero, Int.add_zero]; exact HOK.out, by simp, by rw [← HMX.out]; omega, fun h => by omega⟩
  clear P2 HOK
  go_wp2_with (fail)
  go_loopw [7] (fun iv wr => ∃ (i : Nat) (X : Int), iv = .int .i64 i ∧ LvI w c f m u s D N l i X wr) (fun iv _ => 400 - (intOf iv).toNat)
  case atStart => exact ⟨0, 0, rfl, I0.out⟩
  case round =>
    clear I0
    obtain ⟨i, X, rfl, hI⟩ := hrel
    have HI := Lib.hid hI
    have hlim := hI.lim
    rw [← HMX.out] at hlim
    clear hI
    by_cases hle : (i : Int) ≤ Mx
    · obtain ⟨c0, c1, c2, c3, c4, cl, cf⟩ := HI.out.bx.cells
      go_wp2_with (fail)
      refine (SA.out _ _ _ (HL.out.below HI.out.bx.bl)).mono ?_
      rintro e w3 ⟨b3, hres⟩
      have P3 := Lib.hid (HI.out.bx.step b3)
      clear b3 c0 c1 c2 c3 c4 cl cf
      rcases hres with ⟨hno, _⟩ | ⟨o, S, U, P, hG, hres⟩
      · exfalso
        unfold okS at hno
        rw [HI.out.ok] at hno
        simp at hno
      · have HG := Lib.hid hG
        clear hG
        rcases hres with ⟨hbig, rfl⟩ | ⟨hbig, a', c', rfl, hbs⟩
        · clear hbig
          unfold batV
          go_wp2_with (fail)
          go_ret
          exact ⟨rfl, bl_alloc P3.out.bl _⟩
        · have HB := Lib.hid hbig
          have HS := Lib.hid hbs
          have hc1 := hbs.2.1
          have hc2 := hbs.2.2.1
          unfold maxLen at hc2
          clear hbig hbs
          obtain ⟨y0, hy0⟩ : ∃ y, y = c - X + 0 - U - P := ⟨_, rfl⟩
          obtain ⟨y3, hy3⟩ : ∃ y, y = u + X + U := ⟨_, rfl⟩
          obtain ⟨y4, hy4⟩ : ∃ y, y = s + P := ⟨_, rfl⟩
          rw [Int.add_zero m, ← hy0, ← hy3, ← hy4]
          unfold batV
          have HY0 := Lib.hid hy0; have HY3 := Lib.hid hy3; have HY4 := Lib.hid hy4
          clear hy0 hy3 hy4
          go_wp2_with (fail)
          obtain ⟨w5, hw5⟩ : ∃ w5, w5 = w3.alloc (.cells #[.int .i64 y0, .int .i64 f, .int .i64 m, .int .i64 y3, .int .i64 y4] 23) := ⟨_, rfl⟩
          obtain ⟨t, ht⟩ : ∃ t, t = w3.heap.size := ⟨_, rfl⟩
          have V5 : Hid (BX w w.heap.size (c - X) f m (u + X) s w5 ∧ BX w t y0 f m y3 y4 w5 ∧ Bls w5 a' n c' S ∧ w.heap.size < t) := Lib.hid (by
            rw [hw5, ht]
            exact ⟨P3.out.step (bl_alloc (Below.refl _ _) _), BX.new P3.out.bl _ _ _ _ _, HS.out.below (bl_alloc (Below.refl _ _) _), lt_of_obj P3.out.bt⟩)
          rw [← hw5, ← ht]
          clear hw5 ht P3 HS
          go_loopw [11, 12] (fun av kv wr => ∃ k : Nat, k ≤ n ∧ kv = .int .i64 k ∧ av = .bool (allK l S k) ∧ wr = w5) (fun _ kv _ => n - (intOf kv).toNat)
          case atStart => exact ⟨0, by omega, rfl, rfl, rfl⟩
          case round =>
            obtain ⟨k, hk, rfl, rfl, rfl⟩ := hrel
            by_cases hlt : k < n
            · obtain ⟨b, off, rfl, hbl, _, _, d2⟩ := (HL.out.below V5.out.1.bl).2.2.2 k hlt
              obtain ⟨b', off', rfl, hbl', e2⟩ := V5.out.2.2.1.2.2.2 k hlt
              have hs : Hid (allK l S (k + 1) = (allK l S k && (sv S k || !isOn l k))) := Lib.hid rfl
              generalize allK l S k = A at hs ⊢
              generalize sv S k = B at hs e2
              generalize isOn l k = C at hs d2
              cases A <;> cases B <;> cases C
              all_goals (
                go_wp2_with (fail)
                go_roundw
                case rel => exact ⟨k + 1, by omega, by simp, by rw [hs.out]; rfl, trivial⟩
                case measure => simp [intOf]; omega)
            · obtain rfl : k = n := by omega
              have hk1 : allK l S k = allK l S l.length := by rw [← N1.out]
              rw [hk1]
              clear hk1
              obtain ⟨c0, c1, c2, c3, c4, cl, cf⟩ := V5.out.1.cells
              obtain ⟨d0, d1, d2, d3, d4, dl, df⟩ := V5.out.2.1.cells
              have htl := V5.out.2.2.2
              obtain ⟨_, _, _, _, _, q6, _, _, _⟩ := okC_parts HI.out.ok
              have hmul := HI.out.mul
              by_cases hD : D ≤ c - X
              · obtain ⟨hU, hP, hA⟩ := HG.out.lives.1 (by rw [← HDE.out]; exact hD)
                rw [hA]
                rw [← HDE.out] at hU
                have HE0 : Hid (y0 = c - (X + D)) := Lib.hid (by rw [HY0.out, hU, hP]; omega)
                have HE3 : Hid (y3 = u + (X + D)) := Lib.hid (by rw [HY3.out, hU]; omega)
                have HE4 : Hid (y4 = s) := Lib.hid (by rw [HY4.out, hP]; omega)
                clear hU hP hA
                by_cases h0 : D = 0
                · have hN : N = -1 := by rw [HND.out, if_pos h0]
                  subst hN
                  clear hmul
                  go_wp2_with (fail)
                  go_roundw
                  case rel =>
                    refine ⟨i + 1, X + D, by simp, ⟨?_, ?_, ?_, ?_, ?_⟩⟩
                    · rw [← HE0.out, ← HE3.out, ← HE4.out]
                      exact V5.out.1.set (Nat.le_refl _) y0 f m y3 y4
                    · have := HG.out.next HB.out
                      rw [← HY0.out, ← HY3.out, ← HY4.out, HE0.out, HE3.out, HE4.out, Int.add_zero] at this
                      exact this
                    · rw [HI.out.mul]; simp [Int.add_mul]
                    · rw [← HMX.out]; omega
                    · intro _; omega
                  case measure => simp [intOf]; omega
                · have hiN : (i : Int) < N := by
                    rw [HND.out, if_neg h0]
                    have : (i : Int) + 1 ≤ c / D := Int.le_ediv_of_mul_le (by have := HD0.out; omega) (by rw [Int.add_mul, Int.one_mul, ← hmul]; omega)
                    omega
                  have hne : ((i : Int) == N) = false := by simp; omega
                  have hN0 : 0 ≤ N := by omega
                  clear hmul
                  go_wp2_with (fail)
                  go_roundw
                  case rel =>
                    refine ⟨i + 1, X + D, by simp, ⟨?_, ?_, ?_, ?_, ?_⟩⟩
                    · rw [← HE0.out, ← HE3.out, ← HE4.out]
                      exact V5.out.1.set (Nat.le_refl _) y0 f m y3 y4
                    · have := HG.out.next HB.out
                      rw [← HY0.out, ← HY3.out, ← HY4.out, HE0.out, HE3.out, HE4.out, Int.add_zero] at this
                      exact this
                    · rw [HI.out.mul]; simp [Int.add_mul]
                    · rw [← HMX.out]; omega
                    · intro _; omega
                  case measure => simp [intOf]; omega
              · have hA := HG.out.lives.2 (by rw [← HDE.out]; omega)
                rw [hA]
                have h0 : D ≠ 0 := by omega
                have hDp : 0 < D := by have := HD0.out; omega
                have hN : N = (i : Int) := by
                  have h1 : N = c / D := by rw [HND.out, if_neg h0]
                  have h2 : c / D < (i : Int) + 1 := Int.ediv_lt_of_lt_mul hDp (by rw [Int.add_mul, Int.one_mul, ← hmul]; omega)
                  have h3 := HI.out.low (by rw [h1]; exact Int.ediv_nonneg KC.out HD0.out)
                  omega
                subst hN
                clear hA hmul
                go_wp2_with (fail)
                go_ret
                exact ⟨rfl, V5.out.1.bl⟩
    · go_wp2_with (fail)
      go_ret
      exact ⟨rfl, HI.out.bx.bl⟩
set_option maxRecDepth 100000 in
theorem PowerLives_walk (a0_0 : Int) (a0_1 : Int) (a0_2 : Int) (a0_3 : Int) (a0_4 : Int) (a1 : Value) (w : World) (w0_0 : (Lit.int .i64 a0_0).wf = true) (w0_1 : (Lit.int .i64 a0_1).wf = true) (w0_2 : (Lit.int .i64 a0_2).wf = true) (w0_3 : (Lit.int .i64 a0_3).wf = true) (w0_4 : (Lit.int .i64 a0_4).wf = true) (w1 : Kit.SlIn [.inl .i64, .inl .i64, .inr false] w a1) :
    Calls Try.prog 8 #[.agg #[.int .i64 a0_0, .int .i64 a0_1, .int .i64 a0_2, .int .i64 a0_3, .int .i64 a0_4], a1] w fun e w' => e = .returned (.bool true) ∧ Below w.heap.size w w' := by
  obtain ⟨a, n, c, l, rfl, hL, _, hz⟩ := slIn_lds w1
  by_cases hgo : okC a0_0 a0_1 a0_2 a0_3 a0_4 l = true ∧ lasN a0_0 a0_1 a0_2 a0_3 a0_4 l ≤ 300
  · exact lives_in a0_0 a0_1 a0_2 a0_3 a0_4 a n c l w hL hgo.1 hgo.2
  · have HL := Lib.hid hL
    have LA := Lib.hid (fun W h => lasts_all a0_0 a0_1 a0_2 a0_3 a0_4 l a n c W h)
    have P0 := Lib.hid (BX.new (Below.refl w.heap.size w) a0_0 a0_1 a0_2 a0_3 a0_4)
    have hE : (chkE a0_0 a0_1 a0_2 a0_3 a0_4 l = 2) ∨ (chkE a0_0 a0_1 a0_2 a0_3 a0_4 l = 0 ∧ 300 < lasN a0_0 a0_1 a0_2 a0_3 a0_4 l) := by
      cases hk : okC a0_0 a0_1 a0_2 a0_3 a0_4 l with
      | false => exact .inl (chkE_no hk)
      | true => exact .inr ⟨chkE_ok hk, by have := not_and.1 hgo hk; omega⟩
    generalize chkE a0_0 a0_1 a0_2 a0_3 a0_4 l = E at LA hE
    generalize lasN a0_0 a0_1 a0_2 a0_3 a0_4 l = N at LA hE
    unfold batV at LA
    have HE := Lib.hid hE
    clear hL hz w1 hgo w0_0 w0_1 w0_2 w0_3 w0_4 hE
    go_enter Try.func8, Try.ntmps8
    go_wp2_with (fail)
    refine (shown_any _).mono ?_
    rintro e W1 ⟨rfl, b1⟩
    have P1 := Lib.hid (P0.out.step b1)
    clear b1 P0
    obtain ⟨c0, c1, c2, c3, c4, cl, cf⟩ := P1.out.cells
    go_wp2_with (fail)
    refine (LA.out _ (HL.out.below P1.out.bl)).mono ?_
    rintro e W2 ⟨rfl, b2⟩
    have P2 := Lib.hid (P1.out.step b2)
    clear b2 P1 c0 c1 c2 c3 c4 cl cf
    rcases HE.out with rfl | ⟨rfl, h3⟩
    · go_wp2_with (fail)
      go_ret
      exact ⟨rfl, P2.out.bl⟩
    · go_wp2_with (fail)
      go_ret
      exact ⟨rfl, P2.out.bl⟩
end Go.Proofs.Ytbdobcmblbojfaa
