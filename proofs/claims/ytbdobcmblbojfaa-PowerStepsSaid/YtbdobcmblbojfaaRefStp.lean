/-
  The walk of the reference's Step. Conditions: none beyond a slice of loads.
-/
import Derived.Test.YtbdobcmblbojfaaSrv
namespace Go.Proofs.Ytbdobcmblbojfaa
open Go.RowKit Kit Go.Shelf
set_option linter.unusedVariables false
theorem stp_fin12 {Q : Ending → World → Prop} {W : World} {R : Nat} {x0 x1 x2 x3 x4 E : Int} {v : Value} (tmps : Array Value) (h6 : tmps.getD 6 undef = .pointer (some ⟨R, 0, none⟩)) (h7 : tmps.getD 7 undef = v) (h8 : tmps.getD 8 undef = .int .i64 E)
    (hr : W.heap[R]? = some (.cells #[.int .i64 x0, .int .i64 x1, .int .i64 x2, .int .i64 x3, .int .i64 x4] 23 (0, 0))) (hp : Q (.returned (.tuple #[batV x0 x1 x2 x3 x4, v, .int .i64 E])) W) :
    bodyPost Try.prog Try.f12 Q .ret { tmps := tmps, defers := [] } W := by
  refine ⟨rfl, _, ?_, hp⟩
  have r0 := cell_of (i := 0) hr rfl
  have r1 := cell_of (i := 1) hr rfl
  have r2 := cell_of (i := 2) hr rfl
  have r3 := cell_of (i := 3) hr rfl
  have r4 := cell_of (i := 4) hr rfl
  show (results Try.f12 tmps).run Try.prog W = _
  rw [results_cell_tmp2 rfl, h6, h7, h8]
  unfold batV
  go_simp
/-- The reference's two boxes. -/
structure RF (w : World) (x0 x1 x2 x3 x4 : Int) (W : World) : Prop where
  bt : W.heap[w.heap.size]? = some (.cells #[.int .i64 x0, .int .i64 x1, .int .i64 x2, .int .i64 x3, .int .i64 x4] 23 (0, 0))
  rs : W.heap[w.heap.size + 1]? = some (.cells #[.int .i64 0, .int .i64 0, .int .i64 0, .int .i64 0, .int .i64 0] 23 (0, 0))
  bl : Below w.heap.size w W
theorem RF.step {w W W' : World} {x0 x1 x2 x3 x4 : Int} (h : RF w x0 x1 x2 x3 x4 W) (hb : Below W.heap.size W W') : RF w x0 x1 x2 x3 x4 W' :=
  ⟨below_keeps hb h.bt (lt_of_obj h.bt), below_keeps hb h.rs (lt_of_obj h.rs), bl_step h.bl hb⟩
theorem RF.new (w : World) (x0 x1 x2 x3 x4 : Int) : RF w x0 x1 x2 x3 x4 ((w.alloc (.cells #[.int .i64 x0, .int .i64 x1, .int .i64 x2, .int .i64 x3, .int .i64 x4] 23)).alloc (.cells #[.int .i64 0, .int .i64 0, .int .i64 0, .int .i64 0, .int .i64 0] 23)) := by
  refine ⟨hp_old (hp_new w _) _, ?_, bl_alloc (bl_alloc (Below.refl _ _) _) _⟩
  have := hp_new (w.alloc (.cells #[.int .i64 x0, .int .i64 x1, .int .i64 x2, .int .i64 x3, .int .i64 x4] 23)) (.cells #[.int .i64 0, .int .i64 0, .int .i64 0, .int .i64 0, .int .i64 0] 23)
  rw [World.size_alloc] at this; exact this
theorem RF.cells {w W : World} {x0 x1 x2 x3 x4 : Int} (h : RF w x0 x1 x2 x3 x4 W) :
    (W.cell? ⟨w.heap.size, 0, none⟩ = some (.int .i64 x0) ∧ W.cell? ⟨w.heap.size, 1, none⟩ = some (.int .i64 x1) ∧ W.cell? ⟨w.heap.size, 2, none⟩ = some (.int .i64 x2) ∧ W.cell? ⟨w.heap.size, 3, none⟩ = some (.int .i64 x3) ∧ W.cell? ⟨w.heap.size, 4, none⟩ = some (.int .i64 x4) ∧ w.heap.size < W.heap.size ∧ ∀ i, W.frozen? ⟨w.heap.size, i, none⟩ = false) ∧
    (W.cell? ⟨w.heap.size + 1, 0, none⟩ = some (.int .i64 0) ∧ W.cell? ⟨w.heap.size + 1, 1, none⟩ = some (.int .i64 0) ∧ W.cell? ⟨w.heap.size + 1, 2, none⟩ = some (.int .i64 0) ∧ W.cell? ⟨w.heap.size + 1, 3, none⟩ = some (.int .i64 0) ∧ W.cell? ⟨w.heap.size + 1, 4, none⟩ = some (.int .i64 0) ∧ w.heap.size + 1 < W.heap.size ∧ ∀ i, W.frozen? ⟨w.heap.size + 1, i, none⟩ = false) :=
  ⟨⟨cell_of (i := 0) h.bt rfl, cell_of (i := 1) h.bt rfl, cell_of (i := 2) h.bt rfl, cell_of (i := 3) h.bt rfl, cell_of (i := 4) h.bt rfl, lt_of_obj h.bt, fun i => free_of h.bt⟩,
   ⟨cell_of (i := 0) h.rs rfl, cell_of (i := 1) h.rs rfl, cell_of (i := 2) h.rs rfl, cell_of (i := 3) h.rs rfl, cell_of (i := 4) h.rs rfl, lt_of_obj h.rs, fun i => free_of h.rs⟩⟩
theorem RF.set4 {w W : World} {x0 x1 x2 x3 x4 : Int} (h : RF w x0 x1 x2 x3 x4 W) (v0 v2 v3 v4 : Value) :
    ((((W.setCell ⟨w.heap.size, 0, none⟩ v0).setCell ⟨w.heap.size, 2, none⟩ v2).setCell ⟨w.heap.size, 3, none⟩ v3).setCell ⟨w.heap.size, 4, none⟩ v4).heap[w.heap.size + 1]? = some (.cells #[.int .i64 0, .int .i64 0, .int .i64 0, .int .i64 0, .int .i64 0] 23 (0, 0)) ∧
    Mod (fun k => k = w.heap.size) W ((((W.setCell ⟨w.heap.size, 0, none⟩ v0).setCell ⟨w.heap.size, 2, none⟩ v2).setCell ⟨w.heap.size, 3, none⟩ v3).setCell ⟨w.heap.size, 4, none⟩ v4) ∧
    Below w.heap.size w ((((W.setCell ⟨w.heap.size, 0, none⟩ v0).setCell ⟨w.heap.size, 2, none⟩ v2).setCell ⟨w.heap.size, 3, none⟩ v3).setCell ⟨w.heap.size, 4, none⟩ v4) := by
  have hm : Mod (fun k => k = w.heap.size) W ((((W.setCell ⟨w.heap.size, 0, none⟩ v0).setCell ⟨w.heap.size, 2, none⟩ v2).setCell ⟨w.heap.size, 3, none⟩ v3).setCell ⟨w.heap.size, 4, none⟩ v4) := mod_at (mod_at (mod_at (mod_at (Mod.refl _ _) _) _) _) _
  exact ⟨hm.keeps h.rs (by omega), hm, h.bl.trans (hm.below h.bl.size (fun k e => by rw [e]; exact Nat.le_refl _))⟩
set_option maxRecDepth 100000 in
set_option maxHeartbeats 3200000 in
theorem refstep_bad (c f m u s made : Int) (l : List Ld) (a : Option Addr) (n cp : Nat) (w : World) (hL : Lds w a n cp l) (hn : n ≤ 1000000) (hno : okS c f m u s made l = false) :
    Calls Try.prog 12 #[batV c f m u s, .int .i64 made, .slice a n cp] w fun e w' => e = .returned (.tuple #[batV 0 0 0 0 0, .slice none 0 0, .int .i64 2]) ∧ Below w.heap.size w w' := by
  have CA := Lib.hid (fun W h => refcheck_any c f m u s l a n cp W h hn)
  have HL := Lib.hid hL
  have HNO : Hid (chkE c f m u s l = 2 ∨ (chkE c f m u s l = 0 ∧ (made < 0 ∨ 1073741824 < made))) := Lib.hid (by
    cases h : okC c f m u s l with
    | false => exact .inl (chkE_no h)
    | true =>
      refine .inr ⟨chkE_ok h, ?_⟩
      unfold okS at hno
      rw [h, Bool.true_and, Bool.and_eq_false_iff, decide_eq_false_iff_not, decide_eq_false_iff_not] at hno
      omega)
  obtain ⟨E, hE⟩ : ∃ E, E = chkE c f m u s l := ⟨_, rfl⟩
  rw [← hE] at CA HNO
  unfold batV at CA ⊢
  have R0 := Lib.hid (RF.new w c f m u s)
  clear hL hno hE
  go_enter Try.func12, Try.ntmps12
  go_wp2_with (fail)
  refine (CA.out _ (HL.out.below R0.out.bl)).mono ?_
  rintro e w1 ⟨rfl, b1⟩
  have R1 := Lib.hid (R0.out.step b1)
  obtain ⟨_, r0, r1, r2, r3, r4, rl, rf⟩ := R1.out.cells
  have hno := HNO.out
  clear b1 R0 CA HNO
  rcases hno with rfl | ⟨rfl, h | h⟩
  · go_wp2_with (fail)
    exact stp_fin12 (R := w.heap.size + 1) _ rfl rfl rfl (set5_hp R1.out.rs _ _ _ _ _) ⟨rfl, set5_below (R := w.heap.size + 1) R1.out.bl (Nat.le_add_right _ 1) _ _ _ _ _⟩
  · go_wp2_with (fail)
    exact stp_fin12 (R := w.heap.size + 1) _ rfl rfl rfl (set5_hp R1.out.rs _ _ _ _ _) ⟨rfl, set5_below (R := w.heap.size + 1) R1.out.bl (Nat.le_add_right _ 1) _ _ _ _ _⟩
  · have h' : ¬ made < 0 := by omega
    go_wp2_with (fail)
    exact stp_fin12 (R := w.heap.size + 1) _ rfl rfl rfl (set5_hp R1.out.rs _ _ _ _ _) ⟨rfl, set5_below (R := w.heap.size + 1) R1.out.bl (Nat.le_add_right _ 1) _ _ _ _ _⟩
set_option maxRecDepth 100000 in
set_option maxHeartbeats 6400000 in
theorem refstep_good (c f m u s made : Int) (l : List Ld) (o : List Nat) (S : List Bool) (U P : Int) (a : Option Addr) (n cp : Nat) (w : World) (hL : Lds w a n cp l) (hG : Good c f m u s made l o S U P) :
    Calls Try.prog 12 #[batV c f m u s, .int .i64 made, .slice a n cp] w fun e w' => Below w.heap.size w w' ∧
     ((tooBig m u s made U P = true ∧ e = .returned (.tuple #[batV 0 0 0 0 0, .slice none 0 0, .int .i64 7])) ∨
      (tooBig m u s made U P = false ∧ ∃ a' c', e = .returned (.tuple #[batV (c + made - U - P) f (m + made) (u + U) (s + P), .slice a' n c', .int .i64 0]) ∧ Bls w' a' n c' S)) := by
  obtain ⟨p1, p2, p3, k4, k5, k6, k7, k8, hd⟩ := okC_parts hG.ok
  obtain ⟨f1, f2, f3, f4, f5, f6⟩ := hG.facts
  have hm0 := hG.m0
  have hm1 := hG.m1
  have N1 := Lib.hid hL.1
  have hn : n ≤ 16 := by have := hL.1; omega
  have CA := Lib.hid (fun W h => refcheck_any c f m u s l a n cp W h (by omega))
  rw [chkE_ok hG.ok] at CA
  have SA := Lib.hid (fun W h => served_any l (c + made) o a n cp W h hn hd (by omega) hG.ord)
  rw [← hG.sh] at SA
  have RS := Lib.hid (fun W a' c' h h' => refsum_bls l S a a' n cp c' W h hn hd h')
  rw [← hG.us] at RS
  have HL := Lib.hid hL
  have hmn : mn f (c + made - U) = c + made - U - P := by have := hG.sp; unfold mx at this; unfold mn; omega
  have gmn := fun w => run_min_mn Try.prog w #[2, 2] 2 .i64 .i64 f (c + made - U)
  rw [hmn] at gmn
  have HG := Lib.hid hG
  have hbig : Hid (tooBig m u s made U P = !(inR (m + made) 1152921504606846976 && inR (u + U) 1152921504606846976 && inR (s + P) 1152921504606846976)) := Lib.hid (by
    have e1 : inR (m + made) 1152921504606846976 = decide (m + made ≤ 1152921504606846976) := by unfold inR; rw [decide_eq_true (by omega), Bool.true_and]
    have e2 : inR (u + U) 1152921504606846976 = decide (u + U ≤ 1152921504606846976) := by unfold inR; rw [decide_eq_true (by omega), Bool.true_and]
    have e3 : inR (s + P) 1152921504606846976 = decide (s + P ≤ 1152921504606846976) := by unfold inR; rw [decide_eq_true (by omega), Bool.true_and]
    rw [e1, e2, e3]
    unfold tooBig
    rw [Bool.eq_iff_iff]
    simp only [decide_eq_true_eq, Bool.not_eq_true', Bool.and_eq_false_iff, decide_eq_false_iff_not]
    unfold mx
    omega)
  unfold batV at CA ⊢
  have R0 := Lib.hid (RF.new w c f m u s)
  clear hL hd hG hmn
  go_enter Try.func12, Try.ntmps12
  go_wp2_with (fail)
  refine (CA.out _ (HL.out.below R0.out.bl)).mono ?_
  rintro e w1 ⟨rfl, b1⟩
  have R1 := Lib.hid (R0.out.step b1)
  obtain ⟨⟨x0, x1, x2, x3, x4, xl, xf⟩, _⟩ := R1.out.cells
  clear b1 R0 CA
  go_wp2_with (fail)
  refine (SA.out _ (HL.out.below R1.out.bl)).mono ?_
  rintro e w2 ⟨v, rfl, hv, b2⟩
  obtain ⟨va, vc, rfl, hbv⟩ := own_bls hv
  have R2 := Lib.hid (R1.out.step b2)
  have V2 := Lib.hid hv
  have BV := Lib.hid hbv
  clear hv hbv b2 x0 x1 x2 x3 x4 xl xf R1 SA
  go_wp2_with (fail)
  refine (RS.out _ _ _ (HL.out.below R2.out.bl) BV.out).mono ?_
  rintro e _ ⟨rfl, rfl⟩
  obtain ⟨⟨x0, x1, x2, x3, x4, xl, xf⟩, r0, r1, r2, r3, r4, rl, rf⟩ := R2.out.cells
  have hs4 : s + (c + made - U) - (c + made - U - P) = s + P := by omega
  go_wp2_with (go_at_call 26; refine (total_any _ _).mono ?_; rintro e _ ⟨rfl, rfl⟩)
  · have hb : tooBig m u s made U P = true := by
      have q1 := ‹(!inR (s + P) 1152921504606846976) = true›
      rw [hbig.out, Bool.not_and, q1, Bool.or_true]
    obtain ⟨z1, z2, z3⟩ := R2.out.set4 (.int .i64 (c + made - U - P)) (.int .i64 (m + made)) (.int .i64 (u + U)) (.int .i64 (s + P))
    exact stp_fin12 (R := w.heap.size + 1) _ rfl rfl rfl (set5_hp z1 _ _ _ _ _) ⟨set5_below (R := w.heap.size + 1) z3 (Nat.le_add_right _ 1) _ _ _ _ _, .inl ⟨hb, rfl⟩⟩
  · have hb : tooBig m u s made U P = false := by
      have q1 := ‹inR (m + made) 1152921504606846976 = true›
      have q2 := ‹inR (u + U) 1152921504606846976 = true›
      have q3 := ‹(!inR (s + P) 1152921504606846976) = false›
      rw [hbig.out, Bool.not_and, q3, q1, q2]; rfl
    obtain ⟨z1, z2, z3⟩ := R2.out.set4 (.int .i64 (c + made - U - P)) (.int .i64 (m + made)) (.int .i64 (u + U)) (.int .i64 (s + P))
    have v1 := own_mod V2.out z2 (fun j hj e => own_ne_obj V2.out R2.out.bt (by decide) (by rw [hj]; exact congrArg some e))
    have v2 := own_mod v1 (set5_mod _ (w.heap.size + 1) (.int .i64 (c + made - U - P)) (.int .i64 f) (.int .i64 (m + made)) (.int .i64 (u + U)) (.int .i64 (s + P))) (fun j hj e => own_ne_obj V2.out R2.out.rs (by decide) (by rw [hj]; exact congrArg some e))
    obtain ⟨a2, c2, e2, hb2⟩ := own_bls v2
    exact stp_fin12 (R := w.heap.size + 1) _ rfl rfl rfl (set5_hp z1 _ _ _ _ _) ⟨set5_below (R := w.heap.size + 1) z3 (Nat.le_add_right _ 1) _ _ _ _ _, .inr ⟨hb, a2, c2, by rw [← e2]; rfl, hb2⟩⟩
  · have hb : tooBig m u s made U P = true := by
      have q1 : inR (u + U) 1152921504606846976 = false := Bool.eq_false_iff.2 ‹¬ inR (u + U) 1152921504606846976 = true›
      rw [hbig.out, q1, Bool.and_false, Bool.false_and]; rfl
    obtain ⟨z1, z2, z3⟩ := R2.out.set4 (.int .i64 (c + made - U - P)) (.int .i64 (m + made)) (.int .i64 (u + U)) (.int .i64 (s + P))
    exact stp_fin12 (R := w.heap.size + 1) _ rfl rfl rfl (set5_hp z1 _ _ _ _ _) ⟨set5_below (R := w.heap.size + 1) z3 (Nat.le_add_right _ 1) _ _ _ _ _, .inl ⟨hb, rfl⟩⟩
  · have hb : tooBig m u s made U P = true := by
      have q1 : inR (m + made) 1152921504606846976 = false := Bool.eq_false_iff.2 ‹¬ inR (m + made) 1152921504606846976 = true›
      rw [hbig.out, q1, Bool.false_and, Bool.false_and]; rfl
    obtain ⟨z1, z2, z3⟩ := R2.out.set4 (.int .i64 (c + made - U - P)) (.int .i64 (m + made)) (.int .i64 (u + U)) (.int .i64 (s + P))
    exact stp_fin12 (R := w.heap.size + 1) _ rfl rfl rfl (set5_hp z1 _ _ _ _ _) ⟨set5_below (R := w.heap.size + 1) z3 (Nat.le_add_right _ 1) _ _ _ _ _, .inl ⟨hb, rfl⟩⟩
end Go.Proofs.Ytbdobcmblbojfaa
