/-
  The walks of the law's four, rules and awake. Conditions: none.
-/
import Derived.Test.YtacdigofjlbimaaBest
import Derived.Test.YtacdigofjlbimaaPlne
import Derived.Test.YtacdigofjlbimaaInts
namespace Go.Proofs.Ytacdigofjlbimaa
open Go.RowKit Kit
set_option linter.unusedVariables false
def FOUR : List Wn := [⟨0, 10, 1, 5, 1⟩, ⟨8, 20, 2, 9, 1⟩, ⟨20, 30, 1, 5, 1⟩, ⟨12, 18, 1, 4, 1⟩]
def zs (P : List Nat) : List Int := P.map (fun i : Nat => (i : Int))
theorem ixs_zs (P : List Nat) : ixs P = (zs P).map (Value.int .i64) := by simp [ixs, zs]
theorem zs_len (P : List Nat) : (zs P).length = P.length := by simp [zs]
theorem pl_zs (P : List Nat) : pl (zs P) = P := by
  unfold pl zs
  rw [List.map_map]
  exact (List.map_congr_left (fun a _ => by simp)).trans (List.map_id P)
/-- Best of valid windows and rules. -/
theorem best_ok {L : List Wn} {g b m : Int} {a : Option Addr} {n c : Nat} {w : World} (hE : ckE L g b m = 0) (hW : WS w a n c L) :
    Calls Try.prog 11 #[.slice a n c, .agg #[.int .i64 g, .int .i64 b, .int .i64 m]] w fun e w' => ∃ a' c', e = .returned (.tuple #[.slice a' (bestp (wl L) L.length g b m).length c', .int .i64 0]) ∧ NS w' a' (bestp (wl L) L.length g b m).length c' (zs (bestp (wl L) L.length g b m)) ∧ Below w.heap.size w w' := by
  refine (best_any L g b m a n c w hW).mono ?_
  rintro e w' (⟨_, v, rfl, ho, hb⟩ | ⟨h, _⟩)
  · rw [ixs_zs] at ho
    obtain ⟨a', c', rfl, hN⟩ := own_ns ho
    exact ⟨a', c', rfl, hN, hb⟩
  · exact absurd hE h
theorem best_err {L : List Wn} {g b m : Int} {a : Option Addr} {n c : Nat} {w : World} (hE : ckE L g b m ≠ 0) (hW : WS w a n c L) :
    Calls Try.prog 11 #[.slice a n c, .agg #[.int .i64 g, .int .i64 b, .int .i64 m]] w fun e w' => e = .returned (.tuple #[.slice none 0 0, .int .i64 (ckE L g b m)]) ∧ Below w.heap.size w w' := by
  refine (best_any L g b m a n c w hW).mono ?_
  rintro e w' (⟨h, _⟩ | ⟨_, rfl, hb⟩)
  · exact absurd h hE
  · exact ⟨rfl, hb⟩
theorem four_any (w : World) : Calls Try.prog 24 #[] w fun e w' => e = .returned (.slice (some ⟨w.heap.size, 0, none⟩) 4 4) ∧ WS w' (some ⟨w.heap.size, 0, none⟩) 4 4 FOUR ∧ Below w.heap.size w w' := by
  obtain ⟨W1, hW1⟩ : ∃ W1, W1 = w.alloc (.cells #[.int .i64 0, .int .i64 10, .int .i64 1, .int .i64 5, .int .i64 1, .int .i64 8, .int .i64 20, .int .i64 2, .int .i64 9, .int .i64 1, .int .i64 20, .int .i64 30, .int .i64 1, .int .i64 5, .int .i64 1, .int .i64 12, .int .i64 18, .int .i64 1, .int .i64 4, .int .i64 1] 39) := ⟨_, rfl⟩
  have F : Hid (WS W1 (some ⟨w.heap.size, 0, none⟩) 4 4 FOUR ∧ Below w.heap.size w W1) := Lib.hid (by
    have h : W1.heap[w.heap.size]? = some (.cells #[.int .i64 0, .int .i64 10, .int .i64 1, .int .i64 5, .int .i64 1, .int .i64 8, .int .i64 20, .int .i64 2, .int .i64 9, .int .i64 1, .int .i64 20, .int .i64 30, .int .i64 1, .int .i64 5, .int .i64 1, .int .i64 12, .int .i64 18, .int .i64 1, .int .i64 4, .int .i64 1] 39) := by rw [hW1]; exact hp_new w _
    refine ⟨⟨rfl, Nat.le_refl _, by simp [maxLen], fun i hi => ⟨w.heap.size, 0, rfl, lt_of_obj h, ?_⟩⟩, by rw [hW1]; exact bl_alloc (Below.refl _ _) _⟩
    match i, hi with
    | 0, _ => exact ⟨cell_of (i := 0) h rfl, cell_of (i := 1) h rfl, cell_of (i := 2) h rfl, cell_of (i := 3) h rfl, cell_of (i := 4) h rfl⟩
    | 1, _ => exact ⟨cell_of (i := 5) h rfl, cell_of (i := 6) h rfl, cell_of (i := 7) h rfl, cell_of (i := 8) h rfl, cell_of (i := 9) h rfl⟩
    | 2, _ => exact ⟨cell_of (i := 10) h rfl, cell_of (i := 11) h rfl, cell_of (i := 12) h rfl, cell_of (i := 13) h rfl, cell_of (i := 14) h rfl⟩
    | 3, _ => exact ⟨cell_of (i := 15) h rfl, cell_of (i := 16) h rfl, cell_of (i := 17) h rfl, cell_of (i := 18) h rfl, cell_of (i := 19) h rfl⟩)
  have HW := Lib.hid hW1
  clear hW1
  go_enter Try.func24, Try.ntmps24
  go_wp2_with (fail)
  rw [← HW.out]
  go_ret
  exact ⟨rfl, F.out⟩
theorem ru_fin {Q : Ending → World → Prop} {W : World} {R : Nat} {x y z : Int} {c : Array Value} (tmps : Array Value) (h0 : tmps.getD 0 undef = .pointer (some ⟨R, 0, none⟩)) (hr : W.heap[R]? = some (.cells c 24)) (hc : c = #[.int .i64 x, .int .i64 y, .int .i64 z])
    (hp : Q (.returned (.agg #[.int .i64 x, .int .i64 y, .int .i64 z])) W) : bodyPost Try.prog Try.f23 Q .ret { tmps := tmps, defers := [] } W := by
  subst hc
  refine ⟨rfl, _, ?_, hp⟩
  have r0 := cell_of (i := 0) hr rfl
  have r1 := cell_of (i := 1) hr rfl
  have r2 := cell_of (i := 2) hr rfl
  show (results Try.f23 tmps).run Try.prog W = _
  rw [results_cell1 rfl, h0]
  go_simp
theorem rules_any (w : World) : Calls Try.prog 23 #[] w fun e w' => e = .returned (.agg #[.int .i64 2, .int .i64 10, .int .i64 9]) ∧ Below w.heap.size w w' := by
  go_enter Try.func23, Try.ntmps23
  go_wp2_with (fail)
  exact ru_fin _ rfl (hp_new w _) rfl ⟨rfl, bl_alloc (Below.refl _ _) _⟩
theorem four_ck1 : ckE FOUR 2 10 9 = 0 := by kernel_rfl
theorem four_ck2 : ckE FOUR 0 10 9 = 0 := by kernel_rfl
theorem four_best1 : bestp (wl FOUR) FOUR.length 2 10 9 = [0, 3, 2] := by kernel_rfl
theorem four_best2 : bestp (wl FOUR) FOUR.length 0 10 9 = [1, 2] := by kernel_rfl
theorem four_chk : chkE FOUR 0 0 0 [1, 2] = 0 := by kernel_rfl
theorem four_val : valV FOUR [1, 2] = 14 := by kernel_rfl
theorem two_ns (w : World) : NS (w.alloc (.cells #[.int .i64 1, .int .i64 2] 3)) (some ⟨w.heap.size, 0, none⟩) 2 2 [1, 2] := by
  refine ⟨rfl, Nat.le_refl _, by simp [maxLen], fun i hi => ⟨w.heap.size, 0, rfl, by simp, ?_⟩⟩
  match i, hi with
  | 0, _ => exact cell_of (i := 0) (hp_new w _) rfl
  | 1, _ => exact cell_of (i := 1) (hp_new w _) rfl
theorem three_ns (w : World) : NS (w.alloc (.cells #[.int .i64 0, .int .i64 3, .int .i64 2] 3)) (some ⟨w.heap.size, 0, none⟩) 3 3 [0, 3, 2] := by
  refine ⟨rfl, Nat.le_refl _, by simp [maxLen], fun i hi => ⟨w.heap.size, 0, rfl, by simp, ?_⟩⟩
  match i, hi with
  | 0, _ => exact cell_of (i := 0) (hp_new w _) rfl
  | 1, _ => exact cell_of (i := 1) (hp_new w _) rfl
  | 2, _ => exact cell_of (i := 2) (hp_new w _) rfl
set_option maxHeartbeats 1600000 in
theorem awake_any (w : World) : Calls Try.prog 10 #[] w fun e w' => e = .returned (.bool true) ∧ Below w.heap.size w w' := by
  have B1 := Lib.hid (fun W a h => best_ok (a := a) (n := 4) (c := 4) (w := W) four_ck1 h)
  have B2 := Lib.hid (fun W a h => best_ok (a := a) (n := 4) (c := 4) (w := W) four_ck2 h)
  rw [four_best1] at B1
  rw [four_best2] at B2
  have VA := Lib.hid (fun W a h a' h' => value_any (L := FOUR) (P := [1, 2]) (a := a) (n := 4) (c := 4) (a' := a') (n' := 2) (c' := 2) (w := W) h h')
  rw [four_val, four_chk] at VA
  go_enter Try.func10, Try.ntmps10
  go_wp2_with (fail)
  refine (four_any _).mono ?_
  rintro e w1 ⟨rfl, ws1, b1⟩
  have X1 := Lib.hid b1
  have S1 := Lib.hid ws1
  clear b1 ws1
  go_wp2_with (fail)
  refine (rules_any _).mono ?_
  rintro e w2 ⟨rfl, b2⟩
  have X2 := Lib.hid (bl_step X1.out b2)
  have S2 := Lib.hid (S1.out.below b2)
  clear b2 X1 S1
  go_wp2_with (fail)
  refine (B1.out _ _ S2.out).mono ?_
  rintro e w3 ⟨a3, c3, rfl, n3, b3⟩
  have X3 := Lib.hid (bl_step X2.out b3)
  have N3 := Lib.hid n3
  clear b3 n3 X2 S2 B1
  go_wp2_with (fail)
  refine (four_any _).mono ?_
  rintro e w4 ⟨rfl, ws4, b4⟩
  have X4 := Lib.hid (bl_step X3.out b4)
  have N4 := Lib.hid (N3.out.below b4)
  have S4 := Lib.hid ws4
  clear b4 ws4 X3 N3
  go_wp2_with (fail)
  refine (B2.out _ _ S4.out).mono ?_
  rintro e w5 ⟨a5, c5, rfl, n5, b5⟩
  have X5 := Lib.hid (bl_step X4.out b5)
  have N5 := Lib.hid (N4.out.below b5)
  have M5 := Lib.hid n5
  clear b5 n5 X4 N4 S4 B2
  go_wp2_with (fail)
  refine (four_any _).mono ?_
  rintro e w6 ⟨rfl, ws6, b6⟩
  have X6 := Lib.hid (bl_step X5.out b6)
  have N6 := Lib.hid (N5.out.below b6)
  have M6 := Lib.hid (M5.out.below b6)
  have S6 := Lib.hid ws6
  clear b6 ws6 X5 N5 M5
  go_wp2_with (fail)
  have b7 : Below w6.heap.size w6 (w6.alloc (.cells #[.int .i64 1, .int .i64 2] 3)) := bl_alloc (Below.refl _ _) _
  refine (VA.out _ _ (S6.out.below b7) _ (two_ns w6)).mono ?_
  rintro e w7 ⟨rfl, b8⟩
  have b9 := bl_step b7 b8
  have X7 := Lib.hid (bl_step X6.out b9)
  have N7 := Lib.hid (N6.out.below b9)
  have M7 := Lib.hid (M6.out.below b9)
  clear b7 b8 b9 X6 N6 M6 S6 VA
  go_wp2_with (fail)
  have b10 : Below w7.heap.size w7 (w7.alloc (.cells #[.int .i64 0, .int .i64 3, .int .i64 2] 3)) := bl_alloc (Below.refl _ _) _
  refine (sameints_any (zs [0, 3, 2]) [0, 3, 2] a3 _ 3 3 c3 3 _ (N7.out.below b10) (three_ns w7) (by omega) (by omega)).mono ?_
  rw [show decide (zs [0, 3, 2] = [0, 3, 2]) = true from rfl]
  rintro e _ ⟨rfl, q, rfl⟩
  have b11 := below_drewN b10 q
  have X8 := Lib.hid (bl_step X7.out b11)
  have M8 := Lib.hid (M7.out.below b11)
  clear b10 b11 X7 N7 M7
  obtain ⟨w8, hw8⟩ : ∃ w8, w8 = (w7.alloc (.cells #[.int .i64 0, .int .i64 3, .int .i64 2] 3)).drewN q := ⟨_, rfl⟩
  rw [← hw8] at X8 M8 ⊢
  clear hw8
  go_wp2_with (fail)
  have b12 : Below w8.heap.size w8 (w8.alloc (.cells #[.int .i64 1, .int .i64 2] 3)) := bl_alloc (Below.refl _ _) _
  refine (sameints_any (zs [1, 2]) [1, 2] a5 _ 2 2 c5 2 _ (M8.out.below b12) (two_ns w8) (by omega) (by omega)).mono ?_
  rw [show decide (zs [1, 2] = [1, 2]) = true from rfl]
  rintro e _ ⟨rfl, q2, rfl⟩
  have X9 := Lib.hid (bl_step X8.out (below_drewN b12 q2))
  clear b12 X8 M8
  go_wp2_with (fail)
  go_ret
  exact ⟨rfl, X9.out⟩
end Go.Proofs.Ytacdigofjlbimaa
