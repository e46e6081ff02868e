/-
  The walk of the law ModesSafe. Conditions: none.
-/
import Derived.Test.YtfjhlgmdkkdooaaActs
namespace Go.Proofs.Ytfjhlgmdkkdooaa
open Go.RowKit Kit
set_option linter.unusedVariables false
def PB (ch le : Int) (tr : Bool) : Obj := .cells #[.int .i64 ch, .int .i64 le, .bool tr] 32
/-- What holds at the head of each round of the first loop. -/
def S1 (w : World) (f : Nat) (N : Nat) (ch le : Int) (tr : Bool) (i : Value) (wr : World) : Prop :=
  ∃ (k : Nat) (m A B C D : Int), k ≤ N ∧ i = .int .i64 k ∧ MO w f m A B C D wr ∧ wr.heap[w.heap.size]? = some (PB ch le tr)
def S2 (w : World) (f : Nat) (N : Nat) (i : Value) (wr : World) : Prop :=
  ∃ (k : Nat) (A B C D : Int), k ≤ N ∧ i = .int .i64 k ∧ MO w f 0 A B C D wr
set_option maxRecDepth 100000 in
set_option maxHeartbeats 6400000 in
theorem safe_low (xa : Option Addr) (xc N : Nat) (X : List (List Value)) (hN : N = X.length) (ch le : Int) (tr : Bool) (w : World) (hX : SlL 9 w (.slice xa N xc) X) (hS : ∀ x ∈ X, scAll ks9 x) (hl : N ≤ 500) (hxc : N ≤ xc) (hxm : xc ≤ 9223372036854775807)
    (hd : decide (le ≤ ch) = false) (hg : goodB ch le tr = false) :
    Calls Try.prog 5 #[.slice xa N xc, .agg #[.int .i64 ch, .int .i64 le, .bool tr]] w fun e w' => e = .returned (.bool true) ∧ Below w.heap.size w w' := by
  have HN := Lib.hid hN; have HX := Lib.hid hX; have HSC := Lib.hid hS; have HG := Lib.hid hg
  have h5 : decide ((500 : Int) < (N : Int)) = false := by simp; omega
  clear hN hX hS hg
  go_enter Try.func5, Try.ntmps5
  go_wp2_with (fail)
  obtain ⟨w0, hw0⟩ : ∃ w0, w0 = w.alloc (.cells #[.int .i64 ch, .int .i64 le, .bool tr] 32) := ⟨_, rfl⟩
  have P0 : Hid (w0.heap[w.heap.size]? = some (PB ch le tr)) := Lib.hid (by rw [hw0]; exact hp_new w _)
  have B0 : Hid (Below w.heap.size w w0) := Lib.hid (by rw [hw0]; exact bl_alloc (Below.refl _ _) _)
  rw [← hw0]
  clear hw0
  refine (shown_any _).mono ?_
  rintro e w1 ⟨rfl, hb1⟩
  have P1 := Lib.hid (below_keeps hb1 P0.out (lt_of_obj P0.out))
  have B1 := Lib.hid (bl_step B0.out hb1); clear hb1
  have c0 : w1.cell? ⟨w.heap.size, 0, none⟩ = some (.int .i64 ch) := cell_of (i := 0) P1.out rfl
  have c1 : w1.cell? ⟨w.heap.size, 1, none⟩ = some (.int .i64 le) := cell_of (i := 1) P1.out rfl
  have c2 : w1.cell? ⟨w.heap.size, 2, none⟩ = some (.bool tr) := cell_of (i := 2) P1.out rfl
  go_wp2_with (fail)
  refine (new_any _).mono ?_
  rintro e w2 ⟨rfl, hw2⟩
  have M2 : Hid (MO w w1.heap.size 0 0 0 0 0 w2) := Lib.hid (by rw [hw2]; exact ⟨hp_new w1 _, .inl rfl, bl_alloc B1.out _, B1.out.size⟩)
  have P2 : Hid (w2.heap[w.heap.size]? = some (PB ch le tr)) := Lib.hid (by rw [hw2]; exact hp_old P1.out _)
  obtain ⟨f, hf⟩ : ∃ f, w1.heap.size = f := ⟨_, rfl⟩
  have hfw : w.heap.size < f := by rw [← hf]; exact lt_of_obj P1.out
  rw [hf] at M2 ⊢
  clear hw2 hf c0 c1 c2
  go_wp2_with (fail)
  go_loopw [6] (fun i wr => S1 w f N ch le tr i wr) (fun i _ => N - (intOf i).toNat)
  case atStart => exact ⟨0, 0, 0, 0, 0, 0, by omega, rfl, M2.out, P2.out⟩
  case round =>
    clear P2 M2 P1 B1 P0 B0
    obtain ⟨k, m, A, B, C, D, hk, rfl, hM, hP⟩ := hrel
    have HM := Lib.hid hM; have HP := Lib.hid hP
    clear hM hP
    by_cases hlt : k < N
    · skip
      obtain ⟨x, hx, hxm⟩ := some_of (X := X) (k := k) (by have := HN.out; omega)
      obtain ⟨s, mode, a, b, c, d, ch', le', tr', rfl, hq⟩ := act_open (HSC.out x hxm)
      obtain ⟨bb, off, rfl, hbw, hbr, hc⟩ := HX.out.row HM.out.below hx
      have y0 : wr.cell? ⟨bb, off + k * 9, none⟩ = some (.bool s) := hc 0 (by omega)
      have y1 : wr.cell? ⟨bb, off + k * 9 + 1, none⟩ = some (.int .i64 mode) := hc 1 (by omega)
      have y2 : wr.cell? ⟨bb, off + k * 9 + 2, none⟩ = some (.int .i64 a) := hc 2 (by omega)
      have y3 : wr.cell? ⟨bb, off + k * 9 + 3, none⟩ = some (.int .i64 b) := hc 3 (by omega)
      have y4 : wr.cell? ⟨bb, off + k * 9 + 4, none⟩ = some (.int .i64 c) := hc 4 (by omega)
      have y5 : wr.cell? ⟨bb, off + k * 9 + 5, none⟩ = some (.int .i64 d) := hc 5 (by omega)
      have y6 : wr.cell? ⟨bb, off + k * 9 + 6, none⟩ = some (.int .i64 ch') := hc 6 (by omega)
      have y7 : wr.cell? ⟨bb, off + k * 9 + 7, none⟩ = some (.int .i64 le') := hc 7 (by omega)
      have y8 : wr.cell? ⟨bb, off + k * 9 + 8, none⟩ = some (.bool tr') := hc 8 (by omega)
      have HQ := Lib.hid hq
      clear hc hx hxm hq
      rcases s
      · go_wp2_with (fail)
        go_roundw
        case rel => exact ⟨k + 1, m, A, B, C, D, by omega, by go_num, HM.out, HP.out⟩
        case measure => simp [intOf]; omega
      · have hi0 : (0 : Int) ≤ (k : Int) := by omega
        have hi1 : (k : Int) < (N : Int) := by omega
        have HM1 := Lib.hid HM.out.drew
        have hbf : bb ≠ f := by omega
        go_wp2_with (fail)
        go_region_held3 (fun w' => w'.cell? ⟨bb, off + k * 9 + 1, none⟩ = some (.int .i64 mode) ∧ w'.cell? ⟨bb, off + k * 9 + 2, none⟩ = some (.int .i64 a) ∧ w'.cell? ⟨bb, off + k * 9 + 3, none⟩ = some (.int .i64 b) ∧ w'.cell? ⟨bb, off + k * 9 + 4, none⟩ = some (.int .i64 c) ∧ w'.cell? ⟨bb, off + k * 9 + 5, none⟩ = some (.int .i64 d) ∧ w'.cell? ⟨bb, off + k * 9 + 6, none⟩ = some (.int .i64 ch') ∧ w'.cell? ⟨bb, off + k * 9 + 7, none⟩ = some (.int .i64 le') ∧ w'.cell? ⟨bb, off + k * 9 + 8, none⟩ = some (.bool tr')) (go_keep)
          ((go_at_call 10; refine (ask_mo HM1.out HQ.out).mono ?_; rintro e W2 ⟨rfl, m', A', B', C', D', ho, hm, _, _⟩; have HM2 := Lib.hid ho; have HP2 := Lib.hid (hm.keeps (hp_drew HP.out) (by omega)); obtain ⟨hc, hf⟩ := mcell hm; have z1 : W2.cell? ⟨bb, off + k * 9 + 1, none⟩ = some (.int .i64 mode) := (hc _ _ hbr hbf).trans y1; have z2 : W2.cell? ⟨bb, off + k * 9 + 2, none⟩ = some (.int .i64 a) := (hc _ _ hbr hbf).trans y2; have z3 : W2.cell? ⟨bb, off + k * 9 + 3, none⟩ = some (.int .i64 b) := (hc _ _ hbr hbf).trans y3; have z4 : W2.cell? ⟨bb, off + k * 9 + 4, none⟩ = some (.int .i64 c) := (hc _ _ hbr hbf).trans y4; have z5 : W2.cell? ⟨bb, off + k * 9 + 5, none⟩ = some (.int .i64 d) := (hc _ _ hbr hbf).trans y5; have z6 : W2.cell? ⟨bb, off + k * 9 + 6, none⟩ = some (.int .i64 ch') := (hc _ _ hbr hbf).trans y6; have z7 : W2.cell? ⟨bb, off + k * 9 + 7, none⟩ = some (.int .i64 le') := (hc _ _ hbr hbf).trans y7; have z8 : W2.cell? ⟨bb, off + k * 9 + 8, none⟩ = some (.bool tr') := (hc _ _ hbr hbf).trans y8; clear ho hm hc hf))
        go_wp2_with (fail)
        go_roundw
        case rel => exact ⟨k + 1, m', A', B', C', D', by omega, by go_num, HM2.out, HP2.out⟩
        case measure => simp [intOf]; omega
    · have hke : k = N := by omega
      obtain rfl := hke
      have c0 : wr.cell? ⟨w.heap.size, 0, none⟩ = some (.int .i64 ch) := cell_of (i := 0) HP.out rfl
      have c1 : wr.cell? ⟨w.heap.size, 1, none⟩ = some (.int .i64 le) := cell_of (i := 1) HP.out rfl
      have c2 : wr.cell? ⟨w.heap.size, 2, none⟩ = some (.bool tr) := cell_of (i := 2) HP.out rfl
      have hT : tkm m ch le tr = 0 := by unfold tkm; rw [if_neg (by rw [HG.out]; simp)]
      have HT := Lib.hid hT; clear hT
      go_wp2_with (fail)
      refine (tick_mo HM.out).mono ?_
      rw [HT.out]
      rintro e w3 ⟨rfl, hM3, hm3⟩
      have M3 := Lib.hid (hM3.alloc (.cells #[.int .i64 0, .int .i64 0, .int .i64 0, .int .i64 0] 28))
      clear hM3 hm3 c0 c1 c2 HT HM HP
      rw [show aim 0 A B C D = .agg #[.int .i64 0, .int .i64 0, .int .i64 0, .int .i64 0] from rfl]
      go_wp2_with (fail)
      go_loopw [9] (fun i wr => S2 w f k i wr) (fun i _ => k - (intOf i).toNat)
      case atStart => exact ⟨0, A, B, C, D, by omega, rfl, M3.out⟩
      case round =>
        clear M3
        obtain ⟨k2, A, B, C, D, hk2, rfl, hM⟩ := hrel
        have HM := Lib.hid hM
        clear hM
        by_cases hlt : k2 < k
        · skip
          obtain ⟨x, hx, hxm⟩ := some_of (X := X) (k := k2) (by have := HN.out; omega)
          obtain ⟨s, mode, a, b, c, d, ch', le', tr', rfl, hq⟩ := act_open (HSC.out x hxm)
          obtain ⟨bb, off, rfl, hbw, hbr, hc⟩ := HX.out.row HM.out.below hx
          have y0 : wr.cell? ⟨bb, off + k2 * 9, none⟩ = some (.bool s) := hc 0 (by omega)
          have y1 : wr.cell? ⟨bb, off + k2 * 9 + 1, none⟩ = some (.int .i64 mode) := hc 1 (by omega)
          have y2 : wr.cell? ⟨bb, off + k2 * 9 + 2, none⟩ = some (.int .i64 a) := hc 2 (by omega)
          have y3 : wr.cell? ⟨bb, off + k2 * 9 + 3, none⟩ = some (.int .i64 b) := hc 3 (by omega)
          have y4 : wr.cell? ⟨bb, off + k2 * 9 + 4, none⟩ = some (.int .i64 c) := hc 4 (by omega)
          have y5 : wr.cell? ⟨bb, off + k2 * 9 + 5, none⟩ = some (.int .i64 d) := hc 5 (by omega)
          have y6 : wr.cell? ⟨bb, off + k2 * 9 + 6, none⟩ = some (.int .i64 ch') := hc 6 (by omega)
          have y7 : wr.cell? ⟨bb, off + k2 * 9 + 7, none⟩ = some (.int .i64 le') := hc 7 (by omega)
          have y8 : wr.cell? ⟨bb, off + k2 * 9 + 8, none⟩ = some (.bool tr') := hc 8 (by omega)
          have HQ := Lib.hid hq
          clear hc hx hxm hq
          have L1 := Lib.hid (MO.alloc HM.out (.cells #[.bool s, .int .i64 mode, .int .i64 a, .int .i64 b, .int .i64 c, .int .i64 d, .int .i64 ch', .int .i64 le', .bool tr'] 34))
          rcases s
          · go_wp2_with (fail)
            refine (tick_mo L1.out).mono ?_
            rw [show tkm 0 ch' le' tr' = 0 by unfold tkm; split <;> rfl]
            rintro e w4 ⟨rfl, hM4, hm4⟩
            rw [show aim 0 A B C D = .agg #[.int .i64 0, .int .i64 0, .int .i64 0, .int .i64 0] from rfl]
            have M4 := Lib.hid (hM4.alloc (.cells #[.int .i64 0, .int .i64 0, .int .i64 0, .int .i64 0] 28))
            clear hM4 hm4
            go_wp2_with (fail)
            go_roundw
            case rel => exact ⟨k2 + 1, A, B, C, D, by omega, by go_num, M4.out⟩
            case measure => simp [intOf]; omega
          · obtain ⟨E, hE⟩ : ∃ E, Hid (askErr 0 mode a b c d ch' le' tr' = E) := ⟨_, Lib.hid rfl⟩
            rcases hb0 : (E == 0)
            · rcases hd' : decide (le' ≤ ch') <;> rcases tr'
              all_goals
                go_wp2_with (fail)
                refine (ask_mo L1.out HQ.out).mono ?_
                rw [hE.out]
                rintro e w4 ⟨rfl, m', A', B', C', D', ho, hm, _, h2⟩
                have hm0 : m' = 0 := h2 (by simpa using hb0)
                subst hm0
                have M4 := Lib.hid ho
                clear ho hm h2
                go_wp2_with (fail)
                go_roundw
                case rel => exact ⟨k2 + 1, A', B', C', D', by omega, by go_num, M4.out⟩
                case measure => simp [intOf]; omega
            · have hE0 : E = 0 := by simpa using hb0
              subst hE0
              rcases ask_safe hE.out with rfl | ⟨rfl, hgd⟩
              · rcases hd' : decide (le' ≤ ch') <;> rcases tr'
                all_goals
                  go_wp2_with (fail)
                  refine (ask_mo L1.out HQ.out).mono ?_
                  rw [hE.out]
                  rintro e w4 ⟨rfl, m', A', B', C', D', ho, hm, h2, _⟩
                  have hm0 : m' = 0 := h2 rfl
                  subst hm0
                  have hb4 : wr.heap.size < w4.heap.size := by have := hm.size; simp at this; omega
                  have x1 : w4.cell? ⟨wr.heap.size, 1, none⟩ = some (.int .i64 0) := by
                    rw [hm.cell (by simp) (by have := lt_of_obj HM.out.obj; omega)]; go_simp
                  have M4 := Lib.hid ho
                  clear ho hm h2
                  go_wp2_with (fail)
                  go_roundw
                  case rel => exact ⟨k2 + 1, A', B', C', D', by omega, by go_num, M4.out⟩
                  case measure => simp [intOf]; omega
              · have hd' : decide (le' ≤ ch') = true ∧ tr' = false := by
                  unfold goodB at hgd; simp at hgd; exact ⟨by simpa using hgd.2, hgd.1⟩
                obtain ⟨hd', rfl⟩ := hd'
                clear hgd
                go_wp2_with (fail)
                refine (ask_mo L1.out HQ.out).mono ?_
                rw [hE.out]
                rintro e w4 ⟨rfl, m', A', B', C', D', ho, hm, h2, _⟩
                have hb4 : wr.heap.size < w4.heap.size := by have := hm.size; simp at this; omega
                have x1 : w4.cell? ⟨wr.heap.size, 1, none⟩ = some (.int .i64 1) := by
                  rw [hm.cell (by simp) (by have := lt_of_obj HM.out.obj; omega)]; go_simp
                have M4 := Lib.hid ho
                clear ho hm h2
                go_wp2_with (fail)
                go_ret
                exact ⟨rfl, M4.out.below⟩
        · go_wp2_with (fail)
          refine (mode_any f 0 A B C D _ HM.out.obj).mono ?_
          rintro e _ ⟨rfl, rfl⟩
          go_wp2_with (fail)
          go_ret
          exact ⟨rfl, HM.out.below⟩
set_option maxRecDepth 100000 in
set_option maxHeartbeats 6400000 in
theorem safe_trip (xa : Option Addr) (xc N : Nat) (X : List (List Value)) (hN : N = X.length) (ch le : Int) (w : World) (hX : SlL 9 w (.slice xa N xc) X) (hS : ∀ x ∈ X, scAll ks9 x) (hl : N ≤ 500) (hxc : N ≤ xc) (hxm : xc ≤ 9223372036854775807)
    (hd : decide (le ≤ ch) = true) (hg : goodB ch le true = false) :
    Calls Try.prog 5 #[.slice xa N xc, .agg #[.int .i64 ch, .int .i64 le, .bool true]] w fun e w' => e = .returned (.bool true) ∧ Below w.heap.size w w' := by
  have HN := Lib.hid hN; have HX := Lib.hid hX; have HSC := Lib.hid hS; have HG := Lib.hid hg
  have h5 : decide ((500 : Int) < (N : Int)) = false := by simp; omega
  clear hN hX hS hg
  go_enter Try.func5, Try.ntmps5
  go_wp2_with (fail)
  obtain ⟨w0, hw0⟩ : ∃ w0, w0 = w.alloc (.cells #[.int .i64 ch, .int .i64 le, .bool true] 32) := ⟨_, rfl⟩
  have P0 : Hid (w0.heap[w.heap.size]? = some (PB ch le true)) := Lib.hid (by rw [hw0]; exact hp_new w _)
  have B0 : Hid (Below w.heap.size w w0) := Lib.hid (by rw [hw0]; exact bl_alloc (Below.refl _ _) _)
  rw [← hw0]
  clear hw0
  refine (shown_any _).mono ?_
  rintro e w1 ⟨rfl, hb1⟩
  have P1 := Lib.hid (below_keeps hb1 P0.out (lt_of_obj P0.out))
  have B1 := Lib.hid (bl_step B0.out hb1); clear hb1
  have c0 : w1.cell? ⟨w.heap.size, 0, none⟩ = some (.int .i64 ch) := cell_of (i := 0) P1.out rfl
  have c1 : w1.cell? ⟨w.heap.size, 1, none⟩ = some (.int .i64 le) := cell_of (i := 1) P1.out rfl
  have c2 : w1.cell? ⟨w.heap.size, 2, none⟩ = some (.bool true) := cell_of (i := 2) P1.out rfl
  go_wp2_with (fail)
  refine (new_any _).mono ?_
  rintro e w2 ⟨rfl, hw2⟩
  have M2 : Hid (MO w w1.heap.size 0 0 0 0 0 w2) := Lib.hid (by rw [hw2]; exact ⟨hp_new w1 _, .inl rfl, bl_alloc B1.out _, B1.out.size⟩)
  have P2 : Hid (w2.heap[w.heap.size]? = some (PB ch le true)) := Lib.hid (by rw [hw2]; exact hp_old P1.out _)
  obtain ⟨f, hf⟩ : ∃ f, w1.heap.size = f := ⟨_, rfl⟩
  have hfw : w.heap.size < f := by rw [← hf]; exact lt_of_obj P1.out
  rw [hf] at M2 ⊢
  clear hw2 hf c0 c1 c2
  go_wp2_with (fail)
  go_loopw [6] (fun i wr => S1 w f N ch le true i wr) (fun i _ => N - (intOf i).toNat)
  case atStart => exact ⟨0, 0, 0, 0, 0, 0, by omega, rfl, M2.out, P2.out⟩
  case round =>
    clear P2 M2 P1 B1 P0 B0
    obtain ⟨k, m, A, B, C, D, hk, rfl, hM, hP⟩ := hrel
    have HM := Lib.hid hM; have HP := Lib.hid hP
    clear hM hP
    by_cases hlt : k < N
    · skip
      obtain ⟨x, hx, hxm⟩ := some_of (X := X) (k := k) (by have := HN.out; omega)
      obtain ⟨s, mode, a, b, c, d, ch', le', tr', rfl, hq⟩ := act_open (HSC.out x hxm)
      obtain ⟨bb, off, rfl, hbw, hbr, hc⟩ := HX.out.row HM.out.below hx
      have y0 : wr.cell? ⟨bb, off + k * 9, none⟩ = some (.bool s) := hc 0 (by omega)
      have y1 : wr.cell? ⟨bb, off + k * 9 + 1, none⟩ = some (.int .i64 mode) := hc 1 (by omega)
      have y2 : wr.cell? ⟨bb, off + k * 9 + 2, none⟩ = some (.int .i64 a) := hc 2 (by omega)
      have y3 : wr.cell? ⟨bb, off + k * 9 + 3, none⟩ = some (.int .i64 b) := hc 3 (by omega)
      have y4 : wr.cell? ⟨bb, off + k * 9 + 4, none⟩ = some (.int .i64 c) := hc 4 (by omega)
      have y5 : wr.cell? ⟨bb, off + k * 9 + 5, none⟩ = some (.int .i64 d) := hc 5 (by omega)
      have y6 : wr.cell? ⟨bb, off + k * 9 + 6, none⟩ = some (.int .i64 ch') := hc 6 (by omega)
      have y7 : wr.cell? ⟨bb, off + k * 9 + 7, none⟩ = some (.int .i64 le') := hc 7 (by omega)
      have y8 : wr.cell? ⟨bb, off + k * 9 + 8, none⟩ = some (.bool tr') := hc 8 (by omega)
      have HQ := Lib.hid hq
      clear hc hx hxm hq
      rcases s
      · go_wp2_with (fail)
        go_roundw
        case rel => exact ⟨k + 1, m, A, B, C, D, by omega, by go_num, HM.out, HP.out⟩
        case measure => simp [intOf]; omega
      · have hi0 : (0 : Int) ≤ (k : Int) := by omega
        have hi1 : (k : Int) < (N : Int) := by omega
        have HM1 := Lib.hid HM.out.drew
        have hbf : bb ≠ f := by omega
        go_wp2_with (fail)
        go_region_held3 (fun w' => w'.cell? ⟨bb, off + k * 9 + 1, none⟩ = some (.int .i64 mode) ∧ w'.cell? ⟨bb, off + k * 9 + 2, none⟩ = some (.int .i64 a) ∧ w'.cell? ⟨bb, off + k * 9 + 3, none⟩ = some (.int .i64 b) ∧ w'.cell? ⟨bb, off + k * 9 + 4, none⟩ = some (.int .i64 c) ∧ w'.cell? ⟨bb, off + k * 9 + 5, none⟩ = some (.int .i64 d) ∧ w'.cell? ⟨bb, off + k * 9 + 6, none⟩ = some (.int .i64 ch') ∧ w'.cell? ⟨bb, off + k * 9 + 7, none⟩ = some (.int .i64 le') ∧ w'.cell? ⟨bb, off + k * 9 + 8, none⟩ = some (.bool tr')) (go_keep)
          ((go_at_call 10; refine (ask_mo HM1.out HQ.out).mono ?_; rintro e W2 ⟨rfl, m', A', B', C', D', ho, hm, _, _⟩; have HM2 := Lib.hid ho; have HP2 := Lib.hid (hm.keeps (hp_drew HP.out) (by omega)); obtain ⟨hc, hf⟩ := mcell hm; have z1 : W2.cell? ⟨bb, off + k * 9 + 1, none⟩ = some (.int .i64 mode) := (hc _ _ hbr hbf).trans y1; have z2 : W2.cell? ⟨bb, off + k * 9 + 2, none⟩ = some (.int .i64 a) := (hc _ _ hbr hbf).trans y2; have z3 : W2.cell? ⟨bb, off + k * 9 + 3, none⟩ = some (.int .i64 b) := (hc _ _ hbr hbf).trans y3; have z4 : W2.cell? ⟨bb, off + k * 9 + 4, none⟩ = some (.int .i64 c) := (hc _ _ hbr hbf).trans y4; have z5 : W2.cell? ⟨bb, off + k * 9 + 5, none⟩ = some (.int .i64 d) := (hc _ _ hbr hbf).trans y5; have z6 : W2.cell? ⟨bb, off + k * 9 + 6, none⟩ = some (.int .i64 ch') := (hc _ _ hbr hbf).trans y6; have z7 : W2.cell? ⟨bb, off + k * 9 + 7, none⟩ = some (.int .i64 le') := (hc _ _ hbr hbf).trans y7; have z8 : W2.cell? ⟨bb, off + k * 9 + 8, none⟩ = some (.bool tr') := (hc _ _ hbr hbf).trans y8; clear ho hm hc hf))
        go_wp2_with (fail)
        go_roundw
        case rel => exact ⟨k + 1, m', A', B', C', D', by omega, by go_num, HM2.out, HP2.out⟩
        case measure => simp [intOf]; omega
    · have hke : k = N := by omega
      obtain rfl := hke
      have c0 : wr.cell? ⟨w.heap.size, 0, none⟩ = some (.int .i64 ch) := cell_of (i := 0) HP.out rfl
      have c1 : wr.cell? ⟨w.heap.size, 1, none⟩ = some (.int .i64 le) := cell_of (i := 1) HP.out rfl
      have c2 : wr.cell? ⟨w.heap.size, 2, none⟩ = some (.bool true) := cell_of (i := 2) HP.out rfl
      have hT : tkm m ch le true = 0 := by unfold tkm; rw [if_neg (by rw [HG.out]; simp)]
      have HT := Lib.hid hT; clear hT
      go_wp2_with (fail)
      refine (tick_mo HM.out).mono ?_
      rw [HT.out]
      rintro e w3 ⟨rfl, hM3, hm3⟩
      have M3 := Lib.hid (hM3.alloc (.cells #[.int .i64 0, .int .i64 0, .int .i64 0, .int .i64 0] 28))
      clear hM3 hm3 c0 c1 c2 HT HM HP
      rw [show aim 0 A B C D = .agg #[.int .i64 0, .int .i64 0, .int .i64 0, .int .i64 0] from rfl]
      go_wp2_with (fail)
      go_loopw [9] (fun i wr => S2 w f k i wr) (fun i _ => k - (intOf i).toNat)
      case atStart => exact ⟨0, A, B, C, D, by omega, rfl, M3.out⟩
      case round =>
        clear M3
        obtain ⟨k2, A, B, C, D, hk2, rfl, hM⟩ := hrel
        have HM := Lib.hid hM
        clear hM
        by_cases hlt : k2 < k
        · skip
          obtain ⟨x, hx, hxm⟩ := some_of (X := X) (k := k2) (by have := HN.out; omega)
          obtain ⟨s, mode, a, b, c, d, ch', le', tr', rfl, hq⟩ := act_open (HSC.out x hxm)
          obtain ⟨bb, off, rfl, hbw, hbr, hc⟩ := HX.out.row HM.out.below hx
          have y0 : wr.cell? ⟨bb, off + k2 * 9, none⟩ = some (.bool s) := hc 0 (by omega)
          have y1 : wr.cell? ⟨bb, off + k2 * 9 + 1, none⟩ = some (.int .i64 mode) := hc 1 (by omega)
          have y2 : wr.cell? ⟨bb, off + k2 * 9 + 2, none⟩ = some (.int .i64 a) := hc 2 (by omega)
          have y3 : wr.cell? ⟨bb, off + k2 * 9 + 3, none⟩ = some (.int .i64 b) := hc 3 (by omega)
          have y4 : wr.cell? ⟨bb, off + k2 * 9 + 4, none⟩ = some (.int .i64 c) := hc 4 (by omega)
          have y5 : wr.cell? ⟨bb, off + k2 * 9 + 5, none⟩ = some (.int .i64 d) := hc 5 (by omega)
          have y6 : wr.cell? ⟨bb, off + k2 * 9 + 6, none⟩ = some (.int .i64 ch') := hc 6 (by omega)
          have y7 : wr.cell? ⟨bb, off + k2 * 9 + 7, none⟩ = some (.int .i64 le') := hc 7 (by omega)
          have y8 : wr.cell? ⟨bb, off + k2 * 9 + 8, none⟩ = some (.bool tr') := hc 8 (by omega)
          have HQ := Lib.hid hq
          clear hc hx hxm hq
          have L1 := Lib.hid (MO.alloc HM.out (.cells #[.bool s, .int .i64 mode, .int .i64 a, .int .i64 b, .int .i64 c, .int .i64 d, .int .i64 ch', .int .i64 le', .bool tr'] 34))
          rcases s
          · go_wp2_with (fail)
            refine (tick_mo L1.out).mono ?_
            rw [show tkm 0 ch' le' tr' = 0 by unfold tkm; split <;> rfl]
            rintro e w4 ⟨rfl, hM4, hm4⟩
            rw [show aim 0 A B C D = .agg #[.int .i64 0, .int .i64 0, .int .i64 0, .int .i64 0] from rfl]
            have M4 := Lib.hid (hM4.alloc (.cells #[.int .i64 0, .int .i64 0, .int .i64 0, .int .i64 0] 28))
            clear hM4 hm4
            go_wp2_with (fail)
            go_roundw
            case rel => exact ⟨k2 + 1, A, B, C, D, by omega, by go_num, M4.out⟩
            case measure => simp [intOf]; omega
          · obtain ⟨E, hE⟩ : ∃ E, Hid (askErr 0 mode a b c d ch' le' tr' = E) := ⟨_, Lib.hid rfl⟩
            rcases hb0 : (E == 0)
            · rcases hd' : decide (le' ≤ ch') <;> rcases tr'
              all_goals
                go_wp2_with (fail)
                refine (ask_mo L1.out HQ.out).mono ?_
                rw [hE.out]
                rintro e w4 ⟨rfl, m', A', B', C', D', ho, hm, _, h2⟩
                have hm0 : m' = 0 := h2 (by simpa using hb0)
                subst hm0
                have M4 := Lib.hid ho
                clear ho hm h2
                go_wp2_with (fail)
                go_roundw
                case rel => exact ⟨k2 + 1, A', B', C', D', by omega, by go_num, M4.out⟩
                case measure => simp [intOf]; omega
            · have hE0 : E = 0 := by simpa using hb0
              subst hE0
              rcases ask_safe hE.out with rfl | ⟨rfl, hgd⟩
              · rcases hd' : decide (le' ≤ ch') <;> rcases tr'
                all_goals
                  go_wp2_with (fail)
                  refine (ask_mo L1.out HQ.out).mono ?_
                  rw [hE.out]
                  rintro e w4 ⟨rfl, m', A', B', C', D', ho, hm, h2, _⟩
                  have hm0 : m' = 0 := h2 rfl
                  subst hm0
                  have hb4 : wr.heap.size < w4.heap.size := by have := hm.size; simp at this; omega
                  have x1 : w4.cell? ⟨wr.heap.size, 1, none⟩ = some (.int .i64 0) := by
                    rw [hm.cell (by simp) (by have := lt_of_obj HM.out.obj; omega)]; go_simp
                  have M4 := Lib.hid ho
                  clear ho hm h2
                  go_wp2_with (fail)
                  go_roundw
                  case rel => exact ⟨k2 + 1, A', B', C', D', by omega, by go_num, M4.out⟩
                  case measure => simp [intOf]; omega
              · have hd' : decide (le' ≤ ch') = true ∧ tr' = false := by
                  unfold goodB at hgd; simp at hgd; exact ⟨by simpa using hgd.2, hgd.1⟩
                obtain ⟨hd', rfl⟩ := hd'
                clear hgd
                go_wp2_with (fail)
                refine (ask_mo L1.out HQ.out).mono ?_
                rw [hE.out]
                rintro e w4 ⟨rfl, m', A', B', C', D', ho, hm, h2, _⟩
                have hb4 : wr.heap.size < w4.heap.size := by have := hm.size; simp at this; omega
                have x1 : w4.cell? ⟨wr.heap.size, 1, none⟩ = some (.int .i64 1) := by
                  rw [hm.cell (by simp) (by have := lt_of_obj HM.out.obj; omega)]; go_simp
                have M4 := Lib.hid ho
                clear ho hm h2
                go_wp2_with (fail)
                go_ret
                exact ⟨rfl, M4.out.below⟩
        · go_wp2_with (fail)
          refine (mode_any f 0 A B C D _ HM.out.obj).mono ?_
          rintro e _ ⟨rfl, rfl⟩
          go_wp2_with (fail)
          go_ret
          exact ⟨rfl, HM.out.below⟩
theorem ModesSafe_walk (a0 : Value) (a1_0 : Int) (a1_1 : Int) (a1_2 : Bool) (w : World) (w0 : Kit.SlIn [.inr false, .inl .i64, .inl .i64, .inl .i64, .inl .i64, .inl .i64, .inl .i64, .inl .i64, .inr false] w a0) (w1_0 : (Lit.int .i64 a1_0).wf = true) (w1_1 : (Lit.int .i64 a1_1).wf = true) :
    Calls Try.prog 5 #[a0, .agg #[.int .i64 a1_0, .int .i64 a1_1, .bool a1_2]] w fun e w' => e = .returned (.bool true) ∧ Below w.heap.size w w' := by
  obtain ⟨X, hX, hl, hS⟩ := slIn_l w0
  obtain ⟨xa, xc, rfl, hxc, hxm⟩ := hX.shape
  clear w0 w1_0 w1_1
  unfold maxLen at hl hxm
  obtain ⟨N, hN⟩ : ∃ N, N = X.length := ⟨_, rfl⟩
  rw [← hN] at hl hxc hX ⊢
  by_cases h500 : (500 : Int) < (N : Int)
  · clear hX hS hN
    go_enter Try.func5, Try.ntmps5
    go_wp2_with (fail)
    refine (shown_any _).mono ?_
    rintro e w1 ⟨rfl, hb1⟩
    have B1 := Lib.hid (bl_step (bl_alloc (Below.refl _ _) _) hb1); clear hb1
    go_wp2_with (fail)
    go_ret
    exact ⟨rfl, B1.out⟩
  · rcases hg : goodB a1_0 a1_1 a1_2
    · rcases hd : decide (a1_1 ≤ a1_0)
      · exact safe_low xa xc N X hN a1_0 a1_1 a1_2 w hX hS (by omega) hxc (by omega) hd hg
      · have ht : a1_2 = true := by
          cases a1_2
          · unfold goodB at hg; simp at hg hd; omega
          · rfl
        subst ht
        exact safe_trip xa xc N X hN a1_0 a1_1 w hX hS (by omega) hxc (by omega) hd hg
    · have hg2 : decide (a1_1 ≤ a1_0) = true ∧ a1_2 = false := by
        unfold goodB at hg; simp at hg; exact ⟨by simpa using hg.2, hg.1⟩
      obtain ⟨hd, rfl⟩ := hg2
      have h5 : decide ((500 : Int) < (N : Int)) = false := by simp; omega
      clear hX hS hN hg h500
      go_enter Try.func5, Try.ntmps5
      go_wp2_with (fail)
      obtain ⟨w0, hw0⟩ : ∃ w0, w0 = w.alloc (.cells #[.int .i64 a1_0, .int .i64 a1_1, .bool false] 32) := ⟨_, rfl⟩
      have P0 : Hid (w0.heap[w.heap.size]? = some (PB a1_0 a1_1 false)) := Lib.hid (by rw [hw0]; exact hp_new w _)
      have B0 : Hid (Below w.heap.size w w0) := Lib.hid (by rw [hw0]; exact bl_alloc (Below.refl _ _) _)
      rw [← hw0]
      clear hw0
      refine (shown_any _).mono ?_
      rintro e w1 ⟨rfl, hb1⟩
      have P1 := Lib.hid (below_keeps hb1 P0.out (lt_of_obj P0.out))
      have B1 := Lib.hid (bl_step B0.out hb1); clear hb1
      have c0 : w1.cell? ⟨w.heap.size, 0, none⟩ = some (.int .i64 a1_0) := cell_of (i := 0) P1.out rfl
      have c1 : w1.cell? ⟨w.heap.size, 1, none⟩ = some (.int .i64 a1_1) := cell_of (i := 1) P1.out rfl
      have c2 : w1.cell? ⟨w.heap.size, 2, none⟩ = some (.bool false) := cell_of (i := 2) P1.out rfl
      go_wp2_with (fail)
      go_ret
      exact ⟨rfl, B1.out⟩
end Go.Proofs.Ytfjhlgmdkkdooaa
