/-
  The walk of shown. Conditions: none.
-/
import Derived.Test.YtbdobcmblbojfaaShn
namespace Go.Proofs.Ytbdobcmblbojfaa
open Go.RowKit Kit Go.Shelf
set_option linter.unusedVariables false
def L3 : List Ld := [(50, 3, true), (40, 1, true), (30, 1, true)]
def L1 : List Ld := [(50, 3, true)]
theorem ordL : Ord L3 [2, 1, 0] := by
  refine ⟨fun i => ?_, ?_⟩
  · simp [L3]; omega
  · simp [bef, rk, L3]
theorem shown_step {W w' : World} {e : Ending} (h : StepPost 100 120 0 0 0 0 L3 3 W e w') : ∃ v, e = .returned (.tuple #[batV 10 120 0 90 0, v, .int .i64 0]) ∧ w'.ownsRow W.heap.size 4 1 v 3 (bls [true, true, false]) ∧ Below W.heap.size W w' := by
  obtain ⟨o, S, U, P, ho, hS, hU, hP, hb, h⟩ := h
  obtain rfl := ho.eq ordL
  have hS2 : S = [true, true, false] := by rw [hS]; decide
  subst hS2
  have hU2 : U = 90 := by rw [hU]; decide
  subst hU2
  have hP2 : P = 0 := by rw [hP]; decide
  subst hP2
  rcases h with ⟨h1, _⟩ | ⟨_, v, h2, h3⟩
  · exact absurd h1 (by decide)
  · exact ⟨v, h2, h3, hb⟩
structure ShW (w : World) (t : Nat) (va : Option Addr) (vc : Nat) (W : World) : Prop where
  bt : W.heap[w.heap.size]? = some (.cells #[.int .i64 100, .int .i64 120, .int .i64 0, .int .i64 0, .int .i64 0] 23 (0, 0))
  l3 : Lds W (some ⟨w.heap.size + 1, 0, none⟩) 3 3 L3
  l1 : Lds W (some ⟨w.heap.size + 1, 0, none⟩) 1 3 L1
  bs : Bls W va 3 vc [true, true, false]
  t3 : W.heap[t]? = some (.cells #[.int .i64 10, .int .i64 120, .int .i64 0, .int .i64 90, .int .i64 0] 23 (0, 0))
  bl : Below w.heap.size w W
theorem ShW.step {w W W' : World} {t : Nat} {va : Option Addr} {vc : Nat} (h : ShW w t va vc W) (hb : Below W.heap.size W W') : ShW w t va vc W' :=
  ⟨below_keeps hb h.bt (lt_of_obj h.bt), h.l3.below hb, h.l1.below hb, h.bs.below hb, below_keeps hb h.t3 (lt_of_obj h.t3), bl_step h.bl hb⟩
set_option maxRecDepth 100000 in
set_option maxHeartbeats 3200000 in
theorem shown_any (w : World) : Calls Try.prog 9 #[] w fun e w' => e = .returned (.bool true) ∧ Below w.heap.size w w' := by
  have hok : okC 100 120 0 0 0 L3 = true := by decide
  have SG := Lib.hid (fun W h => (step_good 100 120 0 0 0 0 L3 (some ⟨w.heap.size + 1, 0, none⟩) 3 3 W h hok (by omega) (by omega)).mono (fun e w' h => shown_step h))
  have SB := Lib.hid (fun W h => step_bad 100 120 0 0 0 (-1) L3 (some ⟨w.heap.size + 1, 0, none⟩) 3 3 W h (by omega) (by decide))
  have LA := Lib.hid (fun W h => lasts_any 100 120 0 0 0 L1 (some ⟨w.heap.size + 1, 0, none⟩) 1 3 W h (by omega))
  rw [show lasN 100 120 0 0 0 L1 = 2 from by decide, show chkE 100 120 0 0 0 L1 = 0 from by decide] at LA
  have CA := Lib.hid (fun W h => check_any 100 120 0 0 0 L3 (some ⟨w.heap.size + 1, 0, none⟩) 3 3 W h (by omega))
  have CB := Lib.hid (fun W h => check_any 0 0 0 0 0 L3 (some ⟨w.heap.size + 1, 0, none⟩) 3 3 W h (by omega))
  rw [show chkE 100 120 0 0 0 L3 = 0 from by decide] at CA
  rw [show chkE 0 0 0 0 0 L3 = 2 from by decide] at CB
  have PA := Lib.hid (panel_any 1000 536870912 false)
  rw [show (if false = true then (0 : Int) else panP 1000 536870912) = 500 from by decide] at PA
  unfold batV at SG SB LA CA CB
  obtain ⟨W1, hW1⟩ : ∃ W1, W1 = (w.alloc (.cells #[.int .i64 100, .int .i64 120, .int .i64 0, .int .i64 0, .int .i64 0] 23)).alloc (.cells #[.int .i64 50, .int .i64 3, .bool true, .int .i64 40, .int .i64 1, .bool true, .int .i64 30, .int .i64 1, .bool true] 42) := ⟨_, rfl⟩
  have H1 : Hid (W1.heap[w.heap.size]? = some (.cells #[.int .i64 100, .int .i64 120, .int .i64 0, .int .i64 0, .int .i64 0] 23 (0, 0)) ∧ W1.heap[w.heap.size + 1]? = some (.cells #[.int .i64 50, .int .i64 3, .bool true, .int .i64 40, .int .i64 1, .bool true, .int .i64 30, .int .i64 1, .bool true] 42 (0, 0)) ∧ Below w.heap.size w W1) := Lib.hid (by
    rw [hW1]
    refine ⟨hp_old (hp_new w _) _, ?_, bl_alloc (bl_alloc (Below.refl _ _) _) _⟩
    have := hp_new (w.alloc (.cells #[.int .i64 100, .int .i64 120, .int .i64 0, .int .i64 0, .int .i64 0] 23)) (.cells #[.int .i64 50, .int .i64 3, .bool true, .int .i64 40, .int .i64 1, .bool true, .int .i64 30, .int .i64 1, .bool true] 42)
    rw [World.size_alloc] at this; exact this)
  have LD : Hid (Lds W1 (some ⟨w.heap.size + 1, 0, none⟩) 3 3 L3) := Lib.hid (by
    refine ⟨rfl, Nat.le_refl _, by simp [maxLen], fun i hi => ⟨w.heap.size + 1, 0, rfl, lt_of_obj H1.out.2.1, ?_⟩⟩
    match i, hi with
    | 0, _ => exact ⟨cell_of (i := 0) H1.out.2.1 rfl, cell_of (i := 1) H1.out.2.1 rfl, cell_of (i := 2) H1.out.2.1 rfl⟩
    | 1, _ => exact ⟨cell_of (i := 3) H1.out.2.1 rfl, cell_of (i := 4) H1.out.2.1 rfl, cell_of (i := 5) H1.out.2.1 rfl⟩
    | 2, _ => exact ⟨cell_of (i := 6) H1.out.2.1 rfl, cell_of (i := 7) H1.out.2.1 rfl, cell_of (i := 8) H1.out.2.1 rfl⟩)
  have LD1 : Hid (Lds W1 (some ⟨w.heap.size + 1, 0, none⟩) 1 3 L1) := Lib.hid (by
    refine ⟨rfl, by omega, by simp [maxLen], fun i hi => ⟨w.heap.size + 1, 0, rfl, lt_of_obj H1.out.2.1, ?_⟩⟩
    match i, hi with
    | 0, _ => exact ⟨cell_of (i := 0) H1.out.2.1 rfl, cell_of (i := 1) H1.out.2.1 rfl, cell_of (i := 2) H1.out.2.1 rfl⟩)
  clear hok
  go_enter Try.func9, Try.ntmps9
  go_wp2_with (fail)
  rw [← hW1]
  clear hW1
  refine (SG.out _ LD.out).mono ?_
  rintro e w2 ⟨v, rfl, hv, b2⟩
  obtain ⟨va, vc, rfl, hbv⟩ := own_bls hv
  have V2 : Hid (ShW w w2.heap.size va vc (w2.alloc (.cells #[.int .i64 10, .int .i64 120, .int .i64 0, .int .i64 90, .int .i64 0] 23))) := Lib.hid (by
    have d := bl_alloc (Below.refl w2.heap.size w2) (.cells #[.int .i64 10, .int .i64 120, .int .i64 0, .int .i64 90, .int .i64 0] 23)
    have b3 := bl_step b2 d
    exact ⟨below_keeps b3 H1.out.1 (lt_of_obj H1.out.1), LD.out.below b3, LD1.out.below b3, hbv.below d, hp_new _ _, bl_step H1.out.2.2 b3⟩)
  clear b2 hbv hv LD LD1 H1
  go_wp2_with (fail)
  obtain ⟨t, ht⟩ : ∃ t, t = w2.heap.size := ⟨_, rfl⟩
  obtain ⟨w3, hw3⟩ : ∃ w3, w3 = w2.alloc (.cells #[.int .i64 10, .int .i64 120, .int .i64 0, .int .i64 90, .int .i64 0] 23) := ⟨_, rfl⟩
  rw [← ht] at V2 ⊢
  rw [← hw3] at V2 ⊢
  clear ht hw3
  have cb0 : w3.cell? ⟨w.heap.size, 0, none⟩ = some (.int .i64 100) := cell_of (i := 0) V2.out.bt rfl
  have cb1 : w3.cell? ⟨w.heap.size, 1, none⟩ = some (.int .i64 120) := cell_of (i := 1) V2.out.bt rfl
  have cb2 : w3.cell? ⟨w.heap.size, 2, none⟩ = some (.int .i64 0) := cell_of (i := 2) V2.out.bt rfl
  have cb3 : w3.cell? ⟨w.heap.size, 3, none⟩ = some (.int .i64 0) := cell_of (i := 3) V2.out.bt rfl
  have cb4 : w3.cell? ⟨w.heap.size, 4, none⟩ = some (.int .i64 0) := cell_of (i := 4) V2.out.bt rfl
  have cbl : w.heap.size < w3.heap.size := lt_of_obj V2.out.bt
  refine region_calm (by kernel_rfl) (by kernel_rfl) ?_
  repeat (quiet_step ((go_at_call 19; exact calm_of (LA.out _ (V2.out.l1.below (below_ext _ _))))))
  refine wpQuiet_nil ?_; intro w5 hw'; have hb5 := below_of_ext hw'; clear hw'
  have V5 := Lib.hid (V2.out.step hb5)
  clear cb0 cb1 cb2 cb3 cb4 cbl hb5 V2
  have cb0 : w5.cell? ⟨w.heap.size, 0, none⟩ = some (.int .i64 100) := cell_of (i := 0) V5.out.bt rfl
  have cb1 : w5.cell? ⟨w.heap.size, 1, none⟩ = some (.int .i64 120) := cell_of (i := 1) V5.out.bt rfl
  have cb2 : w5.cell? ⟨w.heap.size, 2, none⟩ = some (.int .i64 0) := cell_of (i := 2) V5.out.bt rfl
  have cb3 : w5.cell? ⟨w.heap.size, 3, none⟩ = some (.int .i64 0) := cell_of (i := 3) V5.out.bt rfl
  have cb4 : w5.cell? ⟨w.heap.size, 4, none⟩ = some (.int .i64 0) := cell_of (i := 4) V5.out.bt rfl
  go_wp2_with (fail)
  refine (SB.out _ V5.out.l3).mono ?_
  rintro e w6 ⟨rfl, b6⟩
  have V6 := Lib.hid ((V5.out.step b6).step (bl_alloc (Below.refl w6.heap.size w6) (.cells #[.int .i64 0, .int .i64 0, .int .i64 0, .int .i64 0, .int .i64 0] 23)))
  have ct0 : w6.cell? ⟨t, 0, none⟩ = some (.int .i64 10) := cell_of (i := 0) (V5.out.step b6).t3 rfl
  have ct1 : w6.cell? ⟨t, 1, none⟩ = some (.int .i64 120) := cell_of (i := 1) (V5.out.step b6).t3 rfl
  have ct2 : w6.cell? ⟨t, 2, none⟩ = some (.int .i64 0) := cell_of (i := 2) (V5.out.step b6).t3 rfl
  have ct3 : w6.cell? ⟨t, 3, none⟩ = some (.int .i64 90) := cell_of (i := 3) (V5.out.step b6).t3 rfl
  have ct4 : w6.cell? ⟨t, 4, none⟩ = some (.int .i64 0) := cell_of (i := 4) (V5.out.step b6).t3 rfl
  have ctl : t < w6.heap.size := lt_of_obj (V5.out.step b6).t3
  clear cb0 cb1 cb2 cb3 cb4 b6 V5
  go_wp2_with (fail)
  obtain ⟨W7, hW7⟩ : ∃ W7, W7 = (w6.alloc (.cells #[.int .i64 0, .int .i64 0, .int .i64 0, .int .i64 0, .int .i64 0] 23)).alloc (.cells #[.bool true, .bool true, .bool false] 4) := ⟨_, rfl⟩
  have V7 : Hid (ShW w t va vc W7 ∧ Bls W7 (some ⟨w6.heap.size + 1, 0, none⟩) 3 3 [true, true, false]) := Lib.hid (by
    rw [hW7]
    refine ⟨V6.out.step (bl_alloc (Below.refl _ _) _), rfl, Nat.le_refl _, by simp [maxLen], fun i hi => ?_⟩
    have hb := hp_new (w6.alloc (.cells #[.int .i64 0, .int .i64 0, .int .i64 0, .int .i64 0, .int .i64 0] 23)) (.cells #[.bool true, .bool true, .bool false] 4)
    rw [World.size_alloc] at hb
    refine ⟨_, _, rfl, lt_of_obj hb, ?_⟩
    match i, hi with
    | 0, _ => exact cell_of (i := 0) hb rfl
    | 1, _ => exact cell_of (i := 1) hb rfl
    | 2, _ => exact cell_of (i := 2) hb rfl)
  rw [← hW7]
  clear hW7 V6 ct0 ct1 ct2 ct3 ct4 ctl
  refine (samebools_any _ _ _ _ _ _ _ _ _ V7.out.1.bs V7.out.2 (by omega) (by omega)).mono ?_
  rintro e w8 ⟨rfl, b8⟩
  have V8 := Lib.hid (V7.out.1.step b8)
  clear b8 V7
  rw [decide_eq_true rfl]
  have cb0 : w8.cell? ⟨w.heap.size, 0, none⟩ = some (.int .i64 100) := cell_of (i := 0) V8.out.bt rfl
  have cb1 : w8.cell? ⟨w.heap.size, 1, none⟩ = some (.int .i64 120) := cell_of (i := 1) V8.out.bt rfl
  have cb2 : w8.cell? ⟨w.heap.size, 2, none⟩ = some (.int .i64 0) := cell_of (i := 2) V8.out.bt rfl
  have cb3 : w8.cell? ⟨w.heap.size, 3, none⟩ = some (.int .i64 0) := cell_of (i := 3) V8.out.bt rfl
  have cb4 : w8.cell? ⟨w.heap.size, 4, none⟩ = some (.int .i64 0) := cell_of (i := 4) V8.out.bt rfl
  go_wp2_with (fail)
  refine (PA.out _).mono ?_
  rintro e _ ⟨rfl, rfl⟩
  go_wp2_with (fail)
  refine (CA.out _ V8.out.l3).mono ?_
  rintro e w9 ⟨rfl, b9⟩
  have V9 := Lib.hid (V8.out.step b9)
  clear b9 V8 cb0 cb1 cb2 cb3 cb4
  go_wp2_with (fail)
  refine (CB.out _ V9.out.l3).mono ?_
  rintro e w10 ⟨rfl, b10⟩
  have V10 := Lib.hid (V9.out.step b10)
  clear b10 V9
  go_wp2_with (fail)
  go_ret
  exact ⟨rfl, V10.out.bl⟩
end Go.Proofs.Ytbdobcmblbojfaa
