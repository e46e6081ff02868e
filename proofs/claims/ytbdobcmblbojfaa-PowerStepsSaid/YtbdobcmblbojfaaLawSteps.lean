/-
  The walk of the law that Check and Step return what the document says. Conditions: none.
-/
import Derived.Test.YtbdobcmblbojfaaRefStp
import Derived.Test.YtbdobcmblbojfaaShnb
namespace Go.Proofs.Ytbdobcmblbojfaa
open Go.RowKit Kit Go.Shelf
set_option linter.unusedVariables false
theorem ord_exists (l : List Ld) : ∃ o, Ord l o := by
  refine ⟨_, ord_of (n := l.length) rfl ((List.finRange l.length).mergeSort fun x y => !(ltOf (fun i k : Fin l.length => cfN l i.val k.val)) y x) (List.mergeSort_perm _ _) ?_⟩
  have := List.pairwise_mergeSort (le := fun x y => !(ltOf (fun i k : Fin l.length => cfN l i.val k.val)) y x) ?_ ?_ (List.finRange l.length)
  · refine this.imp ?_
    intro x y h
    right
    rw [ltF] at h
    simpa using h
  · intro x y z h1 h2
    simp only [ltF, Bool.not_eq_true', decide_eq_false_iff_not] at *
    unfold bef at *; omega
  · intro x y
    simp only [ltF, Bool.or_eq_true, Bool.not_eq_true', decide_eq_false_iff_not]
    unfold bef; omega
/-- A step's contract, its result being known. -/
def StepIs (F : Nat) (c f m u s made : Int) (l : List Ld) (n : Nat) (y0 y1 y2 y3 y4 E : Int) (nT : Nat) (T : List Bool) : Prop :=
  ∀ (a : Option Addr) (cp : Nat) (W : World), Lds W a n cp l → Calls Try.prog F #[batV c f m u s, .int .i64 made, .slice a n cp] W fun e w' =>
    ∃ a1 c1, e = .returned (.tuple #[batV y0 y1 y2 y3 y4, .slice a1 nT c1, .int .i64 E]) ∧ Bls w' a1 nT c1 T ∧ Below W.heap.size W w'
theorem bls_nil (w : World) : Bls w none 0 0 [] := ⟨rfl, Nat.le_refl _, by simp [maxLen], fun i hi => by omega⟩
theorem step_det (c f m u s made : Int) (l : List Ld) (n : Nat) (hn0 : n ≤ 100000) : ∃ y0 y1 y2 y3 y4 E nT T, nT ≤ 100000 ∧ StepIs 11 c f m u s made l n y0 y1 y2 y3 y4 E nT T ∧ StepIs 12 c f m u s made l n y0 y1 y2 y3 y4 E nT T := by
  have hn : n ≤ 1000000 := by omega
  cases hok : okS c f m u s made l with
  | false =>
    refine ⟨0, 0, 0, 0, 0, 2, 0, [], by omega, fun a cp W h => ?_, fun a cp W h => ?_⟩
    · exact (step_bad c f m u s made l a n cp W h hn hok).mono fun e w' h => ⟨none, 0, h.1, bls_nil _, h.2⟩
    · exact (refstep_bad c f m u s made l a n cp W h hn hok).mono fun e w' h => ⟨none, 0, h.1, bls_nil _, h.2⟩
  | true =>
    obtain ⟨h1, h2, h3⟩ := okS_parts hok
    obtain ⟨o, ho⟩ := ord_exists l
    obtain ⟨S, hS⟩ : ∃ S, S = shedL l (c + made) o (onL l) := ⟨_, rfl⟩
    obtain ⟨U, hU⟩ : ∃ U, U = sumS l S := ⟨_, rfl⟩
    obtain ⟨P, hP⟩ : ∃ P, P = mx 0 (c + made - U - f) := ⟨_, rfl⟩
    have hG : Good c f m u s made l o S U P := ⟨h1, h2, h3, ho, hS, hU, hP⟩
    have key : ∀ {W e w'}, StepAll c f m u s made l n W e w' → Below W.heap.size W w' ∧
        ((tooBig m u s made U P = true ∧ e = .returned (.tuple #[batV 0 0 0 0 0, .slice none 0 0, .int .i64 7])) ∨
         (tooBig m u s made U P = false ∧ ∃ a' c', e = .returned (.tuple #[batV (c + made - U - P) f (m + made) (u + U) (s + P), .slice a' n c', .int .i64 0]) ∧ Bls w' a' n c' S)) := by
      intro W e w' h
      obtain ⟨hb, h⟩ := h
      refine ⟨hb, ?_⟩
      rcases h with ⟨h, _⟩ | ⟨o', S', U', P', hG', h⟩
      · rw [hok] at h; cases h
      · obtain rfl := hG'.ord.eq ho
        obtain rfl : S' = S := by rw [hG'.sh, hS]
        obtain rfl : U' = U := by rw [hG'.us, hU]
        obtain rfl : P' = P := by rw [hG'.sp, hP]
        exact h
    cases hb : tooBig m u s made U P with
    | true =>
      refine ⟨0, 0, 0, 0, 0, 7, 0, [], by omega, fun a cp W h => ?_, fun a cp W h => ?_⟩
      · refine (step_any c f m u s made l a n cp W h hn).mono fun e w' h => ?_
        obtain ⟨h1, h2⟩ := key h
        rcases h2 with ⟨_, h2⟩ | ⟨h2, _⟩
        · exact ⟨none, 0, h2, bls_nil _, h1⟩
        · rw [hb] at h2; cases h2
      · refine (refstep_good c f m u s made l o S U P a n cp W h hG).mono fun e w' h => ?_
        rcases h.2 with ⟨_, h2⟩ | ⟨h2, _⟩
        · exact ⟨none, 0, h2, bls_nil _, h.1⟩
        · rw [hb] at h2; cases h2
    | false =>
      by_cases hnl : n = l.length
      · refine ⟨c + made - U - P, f, m + made, u + U, s + P, 0, n, S, by omega, fun a cp W h => ?_, fun a cp W h => ?_⟩
        · refine (step_any c f m u s made l a n cp W h hn).mono fun e w' h => ?_
          obtain ⟨h1, h2⟩ := key h
          rcases h2 with ⟨h2, _⟩ | ⟨_, a', c', h2, h3⟩
          · rw [hb] at h2; cases h2
          · exact ⟨a', c', h2, h3, h1⟩
        · refine (refstep_good c f m u s made l o S U P a n cp W h hG).mono fun e w' h => ?_
          rcases h.2 with ⟨h2, _⟩ | ⟨_, a', c', h2, h3⟩
          · rw [hb] at h2; cases h2
          · exact ⟨a', c', h2, h3, h.1⟩
      · exact ⟨0, 0, 0, 0, 0, 0, 0, [], by omega, fun a cp W h => absurd h.1 hnl, fun a cp W h => absurd h.1 hnl⟩
/-- The frame of the law. -/
structure SW (w : World) (c f m u s : Int) (a : Option Addr) (n cp : Nat) (l : List Ld) (vo : Value) (W : World) : Prop where
  bt : W.heap[w.heap.size]? = some (.cells #[.int .i64 c, .int .i64 f, .int .i64 m, .int .i64 u, .int .i64 s] 23 (0, 0))
  bl : Below w.heap.size w W
  ld : Lds W a n cp l
  kp : ∃ base, LentL base W vo n l
theorem SW.step {w : World} {c f m u s : Int} {a : Option Addr} {n cp : Nat} {l : List Ld} {vo : Value} {W W' : World} (h : SW w c f m u s a n cp l vo W) (hb : Below W.heap.size W W') : SW w c f m u s a n cp l vo W' :=
  ⟨below_keeps hb h.bt (lt_of_obj h.bt), bl_step h.bl hb, h.ld.below hb, by obtain ⟨b, hk⟩ := h.kp; exact ⟨b, hk.calm hb⟩⟩
set_option maxRecDepth 100000 in
set_option maxHeartbeats 6400000 in
theorem steps_in (c f m u s made : Int) (a : Option Addr) (n cp : Nat) (l : List Ld) (w : World) (hL : Lds w a n cp l) (h1 : n ≤ 1000) (hz : a = none → n = 0 ∧ cp = 0) :
    Calls Try.prog 3 #[batV c f m u s, .int .i64 made, .slice a n cp] w fun e w' => e = .returned (.bool true) ∧ Below w.heap.size w w' := by
  obtain ⟨y0, y1, y2, y3, y4, E, nT, T, hnT, hA, hB⟩ := step_det c f m u s made l n (by omega)
  have HL := Lib.hid hL
  have N1 := Lib.hid hL.1
  have hcap := hL.2.1
  have hcap2 := hL.2.2.1
  unfold maxLen at hcap2
  have LE := Lib.hid (fun W h => lend_any l a n cp W h h1 hz)
  have CA := Lib.hid (fun W q qc h => check_any c f m u s l q n qc W h (by omega))
  have CB := Lib.hid (fun W q qc h => refcheck_any c f m u s l q n qc W h (by omega))
  have KE := Lib.hid (fun base W v hk h => kept_any base l a v n cp W hk h h1)
  generalize chkE c f m u s l = Y at CA CB
  have hyy : (Y == Y) = true := by simp
  have hee : (E == E) = true := by simp
  unfold StepIs batV at hA hB
  unfold batV at CA CB ⊢
  have A := Lib.hid hA
  have B := Lib.hid hB
  have P0 : Hid (Below w.heap.size w (w.alloc (.cells #[.int .i64 c, .int .i64 f, .int .i64 m, .int .i64 u, .int .i64 s] 23))) := Lib.hid (bl_alloc (Below.refl _ _) _)
  clear hL hz hA hB
  go_enter Try.func3, Try.ntmps3
  go_wp2_with (fail)
  refine (shown_any _).mono ?_
  rintro e W1 ⟨rfl, b1⟩
  have bt1 := below_keeps b1 (hp_new w (.cells #[.int .i64 c, .int .i64 f, .int .i64 m, .int .i64 u, .int .i64 s] 23)) (by simp)
  have BT1 := Lib.hid bt1
  have P1 := Lib.hid (bl_step P0.out b1)
  clear b1 P0 bt1
  go_wp2_with (fail)
  refine (LE.out _ (HL.out.below P1.out)).mono ?_
  rintro e W2 ⟨v, rfl, hk, b2⟩
  obtain ⟨g, cap, rfl, hg, _, _⟩ := hk.lds N1.out
  have S2 : Hid (SW w c f m u s a n cp l (.slice (some ⟨g, 0, none⟩) n cap) W2) := Lib.hid ⟨below_keeps b2 BT1.out (lt_of_obj BT1.out), bl_step P1.out b2, HL.out.below (bl_step P1.out b2), _, hk⟩
  have G2 := Lib.hid hg
  clear b2 P1 BT1 hk hg
  have c0 : W2.cell? ⟨w.heap.size, 0, none⟩ = some (.int .i64 c) := cell_of (i := 0) S2.out.bt rfl
  have c1 : W2.cell? ⟨w.heap.size, 1, none⟩ = some (.int .i64 f) := cell_of (i := 1) S2.out.bt rfl
  have c2 : W2.cell? ⟨w.heap.size, 2, none⟩ = some (.int .i64 m) := cell_of (i := 2) S2.out.bt rfl
  have c3 : W2.cell? ⟨w.heap.size, 3, none⟩ = some (.int .i64 u) := cell_of (i := 3) S2.out.bt rfl
  have c4 : W2.cell? ⟨w.heap.size, 4, none⟩ = some (.int .i64 s) := cell_of (i := 4) S2.out.bt rfl
  go_wp2_with (fail)
  refine (A.out _ _ _ G2.out).mono ?_
  rintro e W3 ⟨a1, k1, rfl, ht, b3⟩
  have d3 := bl_alloc (Below.refl W3.heap.size W3) (.cells #[.int .i64 y0, .int .i64 y1, .int .i64 y2, .int .i64 y3, .int .i64 y4] 23)
  have S3 := Lib.hid ((S2.out.step b3).step d3)
  have R3 := Lib.hid (hp_new W3 (.cells #[.int .i64 y0, .int .i64 y1, .int .i64 y2, .int .i64 y3, .int .i64 y4] 23))
  have T3 := Lib.hid (ht.below d3)
  have G3 := Lib.hid ((G2.out.below b3).below d3)
  have e0 : W3.cell? ⟨w.heap.size, 0, none⟩ = some (.int .i64 c) := cell_of (i := 0) (S2.out.step b3).bt rfl
  have e1 : W3.cell? ⟨w.heap.size, 1, none⟩ = some (.int .i64 f) := cell_of (i := 1) (S2.out.step b3).bt rfl
  have e2 : W3.cell? ⟨w.heap.size, 2, none⟩ = some (.int .i64 m) := cell_of (i := 2) (S2.out.step b3).bt rfl
  have e3 : W3.cell? ⟨w.heap.size, 3, none⟩ = some (.int .i64 u) := cell_of (i := 3) (S2.out.step b3).bt rfl
  have e4 : W3.cell? ⟨w.heap.size, 4, none⟩ = some (.int .i64 s) := cell_of (i := 4) (S2.out.step b3).bt rfl
  have el : w.heap.size < W3.heap.size := lt_of_obj (S2.out.step b3).bt
  clear b3 d3 ht c0 c1 c2 c3 c4 S2 G2
  go_wp2_with (fail)
  obtain ⟨W4, hW4⟩ : ∃ W4, W4 = W3.alloc (.cells #[.int .i64 y0, .int .i64 y1, .int .i64 y2, .int .i64 y3, .int .i64 y4] 23) := ⟨_, rfl⟩
  obtain ⟨t, ht⟩ : ∃ t, t = W3.heap.size := ⟨_, rfl⟩
  rw [← ht] at R3
  rw [← hW4] at S3 R3 T3 G3 ⊢
  rw [← ht]
  clear hW4 ht e0 e1 e2 e3 e4 el
  refine (B.out _ _ _ S3.out.ld).mono ?_
  rintro e W5 ⟨a2, k2, rfl, ht, b5⟩
  have d5 := bl_alloc (Below.refl W5.heap.size W5) (.cells #[.int .i64 y0, .int .i64 y1, .int .i64 y2, .int .i64 y3, .int .i64 y4] 23)
  have S5 := Lib.hid ((S3.out.step b5).step d5)
  have R5 := Lib.hid (below_keeps d5 (below_keeps b5 R3.out (lt_of_obj R3.out)) (Nat.lt_of_lt_of_le (lt_of_obj R3.out) b5.size))
  have Q5 := Lib.hid (hp_new W5 (.cells #[.int .i64 y0, .int .i64 y1, .int .i64 y2, .int .i64 y3, .int .i64 y4] 23))
  have T5 := Lib.hid ((T3.out.below b5).below d5)
  have U5 := Lib.hid (ht.below d5)
  have G5 := Lib.hid ((G3.out.below b5).below d5)
  clear b5 d5 ht S3 R3 T3 G3
  go_wp2_with (fail)
  obtain ⟨W6, hW6⟩ : ∃ W6, W6 = W5.alloc (.cells #[.int .i64 y0, .int .i64 y1, .int .i64 y2, .int .i64 y3, .int .i64 y4] 23) := ⟨_, rfl⟩
  obtain ⟨t2, ht2⟩ : ∃ t2, t2 = W5.heap.size := ⟨_, rfl⟩
  rw [← ht2] at Q5
  rw [← hW6] at S5 R5 Q5 T5 U5 G5 ⊢
  rw [← ht2]
  clear hW6 ht2
  have c0 : W6.cell? ⟨w.heap.size, 0, none⟩ = some (.int .i64 c) := cell_of (i := 0) S5.out.bt rfl
  have c1 : W6.cell? ⟨w.heap.size, 1, none⟩ = some (.int .i64 f) := cell_of (i := 1) S5.out.bt rfl
  have c2 : W6.cell? ⟨w.heap.size, 2, none⟩ = some (.int .i64 m) := cell_of (i := 2) S5.out.bt rfl
  have c3 : W6.cell? ⟨w.heap.size, 3, none⟩ = some (.int .i64 u) := cell_of (i := 3) S5.out.bt rfl
  have c4 : W6.cell? ⟨w.heap.size, 4, none⟩ = some (.int .i64 s) := cell_of (i := 4) S5.out.bt rfl
  have r0 : W6.cell? ⟨t, 0, none⟩ = some (.int .i64 y0) := cell_of (i := 0) R5.out rfl
  have r1 : W6.cell? ⟨t, 1, none⟩ = some (.int .i64 y1) := cell_of (i := 1) R5.out rfl
  have r2 : W6.cell? ⟨t, 2, none⟩ = some (.int .i64 y2) := cell_of (i := 2) R5.out rfl
  have r3 : W6.cell? ⟨t, 3, none⟩ = some (.int .i64 y3) := cell_of (i := 3) R5.out rfl
  have r4 : W6.cell? ⟨t, 4, none⟩ = some (.int .i64 y4) := cell_of (i := 4) R5.out rfl
  have q0 : W6.cell? ⟨t2, 0, none⟩ = some (.int .i64 y0) := cell_of (i := 0) Q5.out rfl
  have q1 : W6.cell? ⟨t2, 1, none⟩ = some (.int .i64 y1) := cell_of (i := 1) Q5.out rfl
  have q2 : W6.cell? ⟨t2, 2, none⟩ = some (.int .i64 y2) := cell_of (i := 2) Q5.out rfl
  have q3 : W6.cell? ⟨t2, 3, none⟩ = some (.int .i64 y3) := cell_of (i := 3) Q5.out rfl
  have q4 : W6.cell? ⟨t2, 4, none⟩ = some (.int .i64 y4) := cell_of (i := 4) Q5.out rfl
  have cl : w.heap.size < W6.heap.size := lt_of_obj S5.out.bt
  have rl : t < W6.heap.size := lt_of_obj R5.out
  have ql : t2 < W6.heap.size := lt_of_obj Q5.out
  have C13 := Lib.hid (fun x : Ext => samebools_any T T a1 a2 nT nT k1 k2 _ (T5.out.below (below_ext W6 x)) (U5.out.below (below_ext W6 x)) hnT hnT)
  rw [decide_eq_true rfl] at C13
  have C14 := Lib.hid (fun x : Ext => CA.out _ _ _ (G5.out.below (below_ext W6 x)))
  have C15 := Lib.hid (fun x : Ext => CB.out _ _ _ (S5.out.ld.below (below_ext W6 x)))
  have C16 : Hid (∀ x : Ext, Calls Try.prog 16 #[.slice (some ⟨g, 0, none⟩) n cap, .slice a n cp] (ext W6 x) fun e w' => e = .returned (.bool true) ∧ Below (ext W6 x).heap.size (ext W6 x) w') := Lib.hid (fun x => by
    obtain ⟨base, hk⟩ := S5.out.kp
    exact KE.out base _ _ (hk.calm (below_ext W6 x)) (S5.out.ld.below (below_ext W6 x)))
  refine region_calm (by kernel_rfl) (by kernel_rfl) ?_
  repeat (quiet_step (first | (go_at_call 13; exact calm_of (C13.out _)) | (go_at_call 14; exact calm_of (C14.out _)) | (go_at_call 15; exact calm_of (C15.out _)) | (go_at_call 16; exact calm_of (C16.out _))))
  refine wpQuiet_nil ?_; intro w7 hw'; have hb7 := below_of_ext hw'; clear hw'
  have B7 := Lib.hid (bl_step S5.out.bl hb7)
  clear hb7
  go_wp2_with (fail)
  go_ret
  exact ⟨rfl, B7.out⟩
set_option maxRecDepth 100000 in
theorem PowerSteps_walk (a0_0 : Int) (a0_1 : Int) (a0_2 : Int) (a0_3 : Int) (a0_4 : Int) (a1 : Int) (a2 : Value) (w : World) (w0_0 : (Lit.int .i64 a0_0).wf = true) (w0_1 : (Lit.int .i64 a0_1).wf = true) (w0_2 : (Lit.int .i64 a0_2).wf = true) (w0_3 : (Lit.int .i64 a0_3).wf = true) (w0_4 : (Lit.int .i64 a0_4).wf = true) (w1 : (Lit.int .i64 a1).wf = true) (w2 : Kit.SlIn [.inl .i64, .inl .i64, .inr false] w a2) :
    Calls Try.prog 3 #[.agg #[.int .i64 a0_0, .int .i64 a0_1, .int .i64 a0_2, .int .i64 a0_3, .int .i64 a0_4], .int .i64 a1, a2] w fun e w' => e = .returned (.bool true) ∧ Below w.heap.size w w' := by
  obtain ⟨a, n, c, l, rfl, hL, _, hz⟩ := slIn_lds w2
  by_cases h1 : n ≤ 1000
  · exact steps_in a0_0 a0_1 a0_2 a0_3 a0_4 a1 a n c l w hL h1 hz
  · have hl : (1000 : Int) < (n : Int) := by omega
    have hcap := hL.2.1
    have hcap2 := hL.2.2.1
    unfold maxLen at hcap2
    have P0 : Hid (Below w.heap.size w (w.alloc (.cells #[.int .i64 a0_0, .int .i64 a0_1, .int .i64 a0_2, .int .i64 a0_3, .int .i64 a0_4] 23))) := Lib.hid (bl_alloc (Below.refl _ _) _)
    clear hL hz w2 w1 w0_0 w0_1 w0_2 w0_3 w0_4
    go_enter Try.func3, Try.ntmps3
    go_wp2_with (fail)
    refine (shown_any _).mono ?_
    rintro e W1 ⟨rfl, b1⟩
    have B1 := Lib.hid (bl_step P0.out b1)
    clear b1
    go_wp2_with (fail)
    go_ret
    exact ⟨rfl, B1.out⟩
end Go.Proofs.Ytbdobcmblbojfaa
