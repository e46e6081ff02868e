/-
  The walks of the reference's Check and Lasts. Conditions: none beyond a slice of loads.
-/
import Derived.Test.YtbdobcmblbojfaaRefb
namespace Go.Proofs.Ytbdobcmblbojfaa
open Go.RowKit Kit Go.Shelf
set_option linter.unusedVariables false
set_option linter.unusedSimpArgs false
theorem bad_iff (d r : Int) : bad d r = false ↔ (0 ≤ d ∧ d ≤ 1073741824) ∧ (0 ≤ r ∧ r ≤ 15) := by simp [bad, inR]
theorem inR_of {x m : Int} (h : 0 ≤ x) (h' : x ≤ m) : inR x m = true := by unfold inR; simp [h, h']
set_option maxHeartbeats 3200000 in
theorem refcheck_any (c f m u s : Int) (l : List Ld) (a : Option Addr) (n cp : Nat) (w : World) (hL : Lds w a n cp l) (hn : n ≤ 1000000) :
    Calls Try.prog 15 #[batV c f m u s, .slice a n cp] w fun e w' => e = .returned (.int .i64 (chkE c f m u s l)) ∧ Below w.heap.size w w' := by
  unfold batV
  have N1 := Lib.hid hL.1
  have HL := Lib.hid hL
  have hcap := hL.2.1
  have hcap2 := hL.2.2.1
  unfold maxLen at hcap2
  obtain ⟨R, hR⟩ : ∃ R, Hid (chkE c f m u s l = R) := ⟨_, Lib.hid rfl⟩
  rw [hR.out]
  clear hL
  go_enter Try.func15, Try.ntmps15
  go_wp2_with (go_at_call 26; refine (total_any _ _).mono ?_; rintro e _ ⟨rfl, rfl⟩)
  rotate_left 1
  · have hQ : chkE c f m u s l = if okD l then 0 else 2 := by
      have hN := N1.out
      by_cases hD : okD l
      · rw [if_pos hD, chkE_ok]
        unfold okC
        simp only [Bool.and_eq_true, Bool.not_eq_true', decide_eq_false_iff_not, decide_eq_true_eq]
        refine ⟨⟨⟨⟨⟨⟨⟨?_, ?_⟩, ?_⟩, ?_⟩, ?_⟩, ?_⟩, ?_⟩, hD⟩
        all_goals first
          | assumption
          | omega
          | exact inR_of (by omega) (by omega)
      · rw [if_neg hD, chkE_no]
        refine Bool.eq_false_iff.2 (fun h => hD ?_)
        exact (okC_parts h).2.2.2.2.2.2.2.2
    have hR2 : R = if okD l then 0 else 2 := by rw [← hQ, hR.out]
    have HQ := Lib.hid hR2
    clear hQ hR hR2
    obtain ⟨W0, hW0⟩ : ∃ W0, W0 = w.alloc (.cells #[.int .i64 c, .int .i64 f, .int .i64 m, .int .i64 u, .int .i64 s] 23) := ⟨_, rfl⟩
    have B0 : Hid (Below w.heap.size w W0) := Lib.hid (by rw [hW0]; exact bl_alloc (Below.refl _ _) _)
    rw [← hW0]
    clear hW0
    go_loopw [5] (fun i wr => ∃ k : Nat, k ≤ n ∧ i = .int .i64 k ∧ okK l k ∧ wr = W0) (fun i _ => n - (intOf i).toNat)
    case atStart => exact ⟨0, by omega, rfl, fun i hi => by omega, rfl⟩
    case round =>
      obtain ⟨k, hk, rfl, hok, rfl⟩ := hrel
      have HK := Lib.hid hok
      clear hok
      by_cases hlt : k < n
      · obtain ⟨b, off, rfl, hbl, c0, c1, c2⟩ := (HL.out.below B0.out).2.2.2 k hlt
        have hbad := bad_iff (dr l k) (rk l k)
        have hno : Hid (bad (dr l k) (rk l k) = true → R = 2) := Lib.hid (fun hb => by
          rw [HQ.out, if_neg]
          intro hD
          have := (okD_iff l).1 hD k (by rw [← N1.out]; exact hlt)
          rw [hb] at this; cases this)
        obtain ⟨t, ht⟩ : ∃ t, t = bad (dr l k) (rk l k) := ⟨_, rfl⟩
        rw [← ht] at hbad hno
        have HT := Lib.hid ht
        clear c2 ht
        generalize dr l k = D at c0 hbad
        generalize rk l k = E at c1 hbad
        cases t with
        | false =>
          obtain ⟨⟨d1, d2⟩, d3, d4⟩ := hbad.1 rfl
          clear hbad
          go_wp2_with (fail)
          go_roundw
          case rel => exact ⟨k + 1, by omega, by simp, fun i hi => by
            rcases Nat.lt_succ_iff_lt_or_eq.1 hi with h | rfl
            · exact HK.out i h
            · exact HT.out.symm, trivial⟩
          case measure => simp [intOf]; omega
        | true =>
          have hq := hno.out rfl
          subst hq
          have hall : ¬ ((0 ≤ D ∧ D ≤ 1073741824) ∧ (0 ≤ E ∧ E ≤ 15)) := fun h => by have := hbad.2 h; cases this
          clear hbad
          by_cases e1 : D < 0
          · clear hall
            go_wp2_with (fail)
            go_ret
            exact ⟨rfl, B0.out⟩
          · by_cases e2 : 1073741824 < D
            · clear hall
              go_wp2_with (fail)
              go_ret
              exact ⟨rfl, B0.out⟩
            · by_cases e3 : E < 0
              · clear hall
                go_wp2_with (fail)
                go_ret
                exact ⟨rfl, B0.out⟩
              · have e4 : 15 < E := by omega
                clear hall
                go_wp2_with (fail)
                go_ret
                exact ⟨rfl, B0.out⟩
      · obtain rfl : k = n := by omega
        have hq : R = 0 := by rw [HQ.out, if_pos ((okD_iff l).2 (by rw [← N1.out]; exact HK.out))]
        subst hq
        go_wp2_with (fail)
        go_ret
        exact ⟨rfl, B0.out⟩
  all_goals go_ret
  all_goals (refine ⟨?_, bl_alloc (Below.refl _ _) _⟩)
  all_goals (rw [← hR.out, chkE_no]; · rfl
             · refine Bool.eq_false_iff.2 (fun h => ?_)
               obtain ⟨k1, k2, k3, k4, k5, k6, k7, k8, k9⟩ := okC_parts h
               have t1 := inR_of k1.1 k1.2
               have t2 := inR_of k2.1 k2.2
               have t3 := inR_of k3.1 k3.2
               have hN := N1.out
               clear HL N1 hR h
               first | omega | contradiction | (simp only [t1, t2, t3] at *; done))
theorem reflasts_any (c f m u s : Int) (l : List Ld) (a : Option Addr) (n cp : Nat) (w : World) (hL : Lds w a n cp l) (hn : n ≤ 1000000) :
    Calls Try.prog 20 #[batV c f m u s, .slice a n cp] w fun e w' => e = .returned (.tuple #[.int .i64 (lasN c f m u s l), .int .i64 (chkE c f m u s l)]) ∧ Below w.heap.size w w' := by
  have CA := Lib.hid (fun W h => refcheck_any c f m u s l a n cp W h hn)
  have HL := Lib.hid hL
  unfold batV at CA ⊢
  have q0 : Below w.heap.size w (w.alloc (.cells #[.int .i64 c, .int .i64 f, .int .i64 m, .int .i64 u, .int .i64 s] 23)) := bl_alloc (Below.refl _ _) _
  have Q0 := Lib.hid q0
  cases hok : okC c f m u s l with
  | false =>
    have hl : lasN c f m u s l = 0 := by unfold lasN; rw [hok]; rfl
    rw [chkE_no hok] at CA ⊢
    rw [hl]
    clear hL hok hl q0
    go_enter Try.func20, Try.ntmps20
    go_wp2_with (fail)
    refine (CA.out _ (HL.out.below Q0.out)).mono ?_
    rintro e w1 ⟨rfl, b1⟩
    have B1 := Lib.hid (bl_step Q0.out b1)
    clear b1
    go_wp2_with (fail)
    go_ret2
    exact ⟨rfl, B1.out⟩
  | true =>
    obtain ⟨_, _, _, k4, k5, k6, k7, k8, k9⟩ := okC_parts hok
    have hl : lasN c f m u s l = if sumS l (onL l) = 0 then -1 else c / sumS l (onL l) := by unfold lasN; rw [hok]; rfl
    rw [chkE_ok hok] at CA ⊢
    rw [hl]
    obtain ⟨R, hR⟩ : ∃ R, Hid ((if sumS l (onL l) = 0 then (-1 : Int) else c / sumS l (onL l)) = R) := ⟨_, Lib.hid rfl⟩
    rw [hR.out]
    have N1 := Lib.hid hL.1
    have HD := Lib.hid k9
    have hcap := hL.2.1
    have hcap2 := hL.2.2.1
    unfold maxLen at hcap2
    have hn16 : n ≤ 16 := by have := hL.1; omega
    clear hL hok hl q0 k9 k8
    go_enter Try.func20, Try.ntmps20
    go_wp2_with (fail)
    refine (CA.out _ (HL.out.below Q0.out)).mono ?_
    rintro e w1 ⟨rfl, b1⟩
    have hc1 := b1.cell (p := ⟨w.heap.size, 0, none⟩) (by simp)
    rw [cell_of (i := 0) (hp_new w _) rfl] at hc1
    have HC1 : Hid (w1.cell? ⟨w.heap.size, 0, none⟩ = some (.int .i64 c)) := Lib.hid hc1
    have B1 := Lib.hid (bl_step Q0.out b1)
    clear b1 hc1
    go_wp2_with (fail)
    go_loopw [6, 7] (fun sv i wr => ∃ k : Nat, k ≤ n ∧ i = .int .i64 k ∧ sv = .int .i64 (sumK l (onL l) k) ∧ wr = w1) (fun _ i _ => n - (intOf i).toNat)
    case atStart => exact ⟨0, by omega, rfl, rfl, rfl⟩
    case round =>
      obtain ⟨k, hk, rfl, rfl, rfl⟩ := hrel
      by_cases hlt : k < n
      · obtain ⟨b, off, rfl, hbl, c0, c1, c2⟩ := (HL.out.below B1.out).2.2.2 k hlt
        obtain ⟨b1, b2⟩ := sumK_bound HD.out (onL l) k
        obtain ⟨d1, d2, _, _⟩ := HD.out.at k
        have e1 : sumK l (onL l) (k + 1) = sumK l (onL l) k + (if isOn l k then dr l k else 0) := by rw [sumK, sv_onL]
        obtain ⟨S, hS⟩ : ∃ S, S = sumK l (onL l) k := ⟨_, rfl⟩
        obtain ⟨D, hD⟩ : ∃ D, D = dr l k := ⟨_, rfl⟩
        rw [← hS] at b1 b2 e1 ⊢
        rw [← hD] at d1 d2 e1 c0
        have E1 := Lib.hid e1
        clear hS hD e1 c1
        cases ho : isOn l k with
        | true =>
          rw [ho] at c2 E1
          clear ho
          go_wp2_with (fail)
          go_roundw
          case rel => exact ⟨k + 1, by omega, by simp, by rw [E1.out]; simp, trivial⟩
          case measure => simp [intOf]; omega
        | false =>
          rw [ho] at c2 E1
          clear ho
          go_wp2_with (fail)
          go_roundw
          case rel => exact ⟨k + 1, by omega, by simp, by rw [E1.out]; simp, trivial⟩
          case measure => simp [intOf]; omega
      · obtain rfl : k = n := by omega
        have e1 : sumK l (onL l) k = sumS l (onL l) := by rw [sumS, ← N1.out]
        have hb := sumK_bound HD.out (onL l) k
        rw [e1] at hb ⊢
        obtain ⟨D, hD⟩ : ∃ D, D = sumS l (onL l) := ⟨_, rfl⟩
        have hr := hR.out
        rw [← hD] at hb hr ⊢
        clear e1 hD hR
        have hc := HC1.out
        have hbl : w.heap.size < wr.heap.size := World.block_lt_of_cell? wr _ hc
        by_cases h0 : D = 0
        · subst h0
          rw [if_pos rfl] at hr
          subst hr
          go_wp2_with (fail)
          go_ret2
          exact ⟨rfl, B1.out⟩
        · rw [if_neg h0] at hr
          subst hr
          have hne : ((D : Int) == 0) = false := by simpa using h0
          go_wp2_with (fail)
          go_ret2
          exact ⟨rfl, B1.out⟩
end Go.Proofs.Ytbdobcmblbojfaa
