/-
  The walk of the law ModesPlays. Conditions: none.
-/
import Derived.Test.YtfjhlgmdkkdooaaLawPoint
import Derived.Test.YtfjhlgmdkkdooaaRefAskb
namespace Go.Proofs.Ytfjhlgmdkkdooaa
open Go.RowKit Kit
set_option linter.unusedVariables false
/-- The two objects. -/
structure PL (w : World) (f r : Nat) (m A B C D : Int) (W : World) : Prop where
  mo : MO w f m A B C D W
  rc : W.heap[r]? = some (RC m A B C D)
  fr : f ≠ r
  rb : w.heap.size ≤ r
theorem PL.bl {w W W' : World} {f r : Nat} {m A B C D : Int} (h : PL w f r m A B C D W) (hb : Below W.heap.size W W') : PL w f r m A B C D W' :=
  ⟨h.mo.bl hb, below_keeps hb h.rc (lt_of_obj h.rc), h.fr, h.rb⟩
theorem both_obj (m A B C D mode a b c d ch le : Int) (tr : Bool) (hm : m = 0 ∨ m = 1 ∨ m = 2) : ∃ m' A' B' C' D', askObj m A B C D mode a b c d ch le tr = MC m' A' B' C' D' ∧ refObj m A B C D mode a b c d ch le tr = RC m' A' B' C' D' ∧ (m' = 0 ∨ m' = 1 ∨ m' = 2) := by
  unfold askObj refObj
  by_cases h : askErr m mode a b c d ch le tr = 0
  · have hr := (ask_ok h).1
    rw [if_pos h, if_pos h]
    by_cases h2 : mode = 2
    · rw [if_pos h2, if_pos h2]; exact ⟨_, _, _, _, _, rfl, rfl, hr⟩
    · rw [if_neg h2, if_neg h2]; exact ⟨_, _, _, _, _, rfl, rfl, hr⟩
  · rw [if_neg h, if_neg h]; exact ⟨_, _, _, _, _, rfl, rfl, hm⟩
theorem rask_as {r : Nat} {m A B C D mode a b c d ch le : Int} {tr : Bool} {w : World} {n m' A' B' C' D' : Int} (h : w.heap[r]? = some (RC m A B C D)) (hn : askErr m mode a b c d ch le tr = n) (ho : refObj m A B C D mode a b c d ch le tr = RC m' A' B' C' D') :
    Calls Try.prog 11 #[.pointer (some ⟨r, 0, none⟩), .int .i64 mode, .agg #[.int .i64 a, .int .i64 b, .int .i64 c, .int .i64 d], .agg #[.int .i64 ch, .int .i64 le, .bool tr]] w fun e w' => e = .returned (.int .i64 n) ∧ w'.heap[r]? = some (RC m' A' B' C' D') ∧ Mod (fun k => k = r) w w' :=
  (rask_any r m A B C D mode a b c d ch le tr w h).mono fun e w' ⟨h1, h2, h3⟩ => ⟨by rw [h1, hn], by rw [h2, ho], h3⟩
set_option maxRecDepth 100000 in
set_option maxHeartbeats 6400000 in
theorem plays_main (xa : Option Addr) (xc N : Nat) (X : List (List Value)) (hN : N = X.length) (rank : Int) (w : World) (hX : SlL 9 w (.slice xa N xc) X) (hS : ∀ x ∈ X, scAll ks9 x) (hl : N ≤ 500) (hxc : N ≤ xc) (hxm : xc ≤ 9223372036854775807) :
    Calls Try.prog 3 #[.slice xa N xc, .int .i64 rank] w fun e w' => e = .returned (.bool true) ∧ Below w.heap.size w w' := by
  have HN := Lib.hid hN; have HX := Lib.hid hX; have HSC := Lib.hid hS
  have h5 : decide ((500 : Int) < (N : Int)) = false := by simp; omega
  clear hN hX hS
  go_enter Try.func3, Try.ntmps3
  go_wp2_with (fail)
  refine (shown_any _).mono ?_
  rintro e w1 ⟨rfl, hb1⟩
  have B1 := Lib.hid hb1; clear hb1
  go_wp2_with (fail)
  refine (new_any _).mono ?_
  rintro e w2 ⟨rfl, hw2⟩
  have P2 : Hid (PL w w1.heap.size (w1.heap.size + 1) 0 0 0 0 0 (w2.alloc (RC 0 0 0 0 0))) := Lib.hid (by
    rw [hw2]; exact ⟨⟨hp_old (hp_new w1 _) _, .inl rfl, bl_alloc (bl_alloc B1.out _) _, B1.out.size⟩, by simpa using hp_new (w1.alloc _) _, by omega, by have := B1.out.size; omega⟩)
  have hs2 : w2.heap.size = w1.heap.size + 1 := by rw [hw2]; simp
  have HS2 := Lib.hid hs2
  clear hw2 hs2
  go_wp2_with (fail)
  rw [show Obj.cells #[.int .i64 0, .int .i64 0, .int .i64 0, .int .i64 0, .int .i64 0] 30 = RC 0 0 0 0 0 from rfl, HS2.out]
  obtain ⟨W3, hW3⟩ : ∃ W3, W3 = w2.alloc (RC 0 0 0 0 0) := ⟨_, rfl⟩
  obtain ⟨f, hf⟩ : ∃ f, f = w1.heap.size := ⟨_, rfl⟩
  rw [← hf, ← hW3] at P2
  rw [← hf, ← hW3]
  obtain ⟨r, hr⟩ : ∃ r, r = f + 1 := ⟨_, rfl⟩
  rw [← hr] at P2 ⊢
  clear hf hW3 hr B1 HS2
  go_loopw [7] (fun i wr => ∃ (k : Nat) (m A B C D : Int), k ≤ N ∧ i = .int .i64 k ∧ PL w f r m A B C D wr) (fun i _ => N - (intOf i).toNat)
  case atStart => exact ⟨0, 0, 0, 0, 0, 0, by omega, rfl, P2.out⟩
  case round =>
    clear P2
    obtain ⟨k, m, A, B, C, D, hk, rfl, hP⟩ := hrel
    have HP := Lib.hid hP
    clear hP
    by_cases hlt : k < N
    · skip
      obtain ⟨x, hx, hxm⟩ := some_of (X := X) (k := k) (by have := HN.out; omega)
      obtain ⟨s, mode, a, b, c, d, ch, le, tr, rfl, hq⟩ := act_open (HSC.out x hxm)
      obtain ⟨bb, off, rfl, hbw, hbr, hc⟩ := HX.out.row HP.out.mo.below hx
      have y0 : wr.cell? ⟨bb, off + k * 9, none⟩ = some (.bool s) := hc 0 (by omega)
      have y1 : wr.cell? ⟨bb, off + k * 9 + 1, none⟩ = some (.int .i64 mode) := hc 1 (by omega)
      have y2 : wr.cell? ⟨bb, off + k * 9 + 2, none⟩ = some (.int .i64 a) := hc 2 (by omega)
      have y3 : wr.cell? ⟨bb, off + k * 9 + 3, none⟩ = some (.int .i64 b) := hc 3 (by omega)
      have y4 : wr.cell? ⟨bb, off + k * 9 + 4, none⟩ = some (.int .i64 c) := hc 4 (by omega)
      have y5 : wr.cell? ⟨bb, off + k * 9 + 5, none⟩ = some (.int .i64 d) := hc 5 (by omega)
      have y6 : wr.cell? ⟨bb, off + k * 9 + 6, none⟩ = some (.int .i64 ch) := hc 6 (by omega)
      have y7 : wr.cell? ⟨bb, off + k * 9 + 7, none⟩ = some (.int .i64 le) := hc 7 (by omega)
      have y8 : wr.cell? ⟨bb, off + k * 9 + 8, none⟩ = some (.bool tr) := hc 8 (by omega)
      have HQ := Lib.hid hq
      clear hc hx hxm hq
      rcases s
      · obtain ⟨ht, _⟩ := tkm_in (ch := ch) (le := le) (tr := tr) HP.out.mo.mode
        obtain ⟨t, hte⟩ : ∃ t, Hid (tkm m ch le tr = t) := ⟨_, Lib.hid rfl⟩
        rw [hte.out] at ht
        go_wp2_with (fail)
        obtain ⟨q, hq⟩ : ∃ q, q = wr.heap.size := ⟨_, rfl⟩
        obtain ⟨W1, hW1⟩ : ∃ W1, W1 = wr.alloc (.cells #[.bool false, .int .i64 mode, .int .i64 a, .int .i64 b, .int .i64 c, .int .i64 d, .int .i64 ch, .int .i64 le, .bool tr] 34) := ⟨_, rfl⟩
        have hfq : f < q := by rw [hq]; exact lt_of_obj HP.out.mo.obj
        have hrq : r < q := by rw [hq]; exact lt_of_obj HP.out.rc
        have L1 : Hid (PL w f r m A B C D W1) := Lib.hid (by rw [hW1]; exact HP.out.bl (bl_alloc (Below.refl _ _) _))
        have X1 : Hid (W1.heap[q]? = some (A9 false mode a b c d ch le tr)) := Lib.hid (by rw [hW1, hq]; exact hp_new wr _)
        rw [← hq, ← hW1]
        clear hq hW1 y0 y1 y2 y3 y4 y5 y6 y7 y8
        rcases ht with rfl | rfl | rfl
        · skip
          refine (tick_any f m A B C D ch le tr _ L1.out.mo.mode L1.out.mo.obj).mono ?_
          intro e w4 hh
          unfold TickR at hh
          rw [hte.out, show aim 0 A B C D = .agg #[.int .i64 0, .int .i64 0, .int .i64 0, .int .i64 0] from rfl] at hh
          obtain ⟨rfl, ho, hm⟩ := hh
          have L4 : Hid (MO w f 0 A B C D w4) := Lib.hid ⟨ho, by omega, bl_mod L1.out.mo.below hm L1.out.mo.base, L1.out.mo.base⟩
          have X4 := Lib.hid (hm.keeps X1.out (by omega))
          have R4 := Lib.hid (hm.keeps L1.out.rc (by have := L1.out.fr; omega))
          clear ho hm
          have x6 : w4.cell? ⟨q, 6, none⟩ = some (.int .i64 ch) := cell_of (i := 6) X4.out rfl
          have x7 : w4.cell? ⟨q, 7, none⟩ = some (.int .i64 le) := cell_of (i := 7) X4.out rfl
          have x8 : w4.cell? ⟨q, 8, none⟩ = some (.bool tr) := cell_of (i := 8) X4.out rfl
          have xl4 := lt_of_obj X4.out
          go_wp2_with (fail)
          clear x6 x7 x8
          obtain ⟨q5, hq5⟩ : ∃ q5, q5 = w4.heap.size := ⟨_, rfl⟩
          obtain ⟨W5, hW5⟩ : ∃ W5, W5 = w4.alloc (.cells #[.int .i64 0, .int .i64 0, .int .i64 0, .int .i64 0] 28) := ⟨_, rfl⟩
          have hq5l : q < q5 := by rw [hq5]; exact lt_of_obj X4.out
          have L5 : Hid (MO w f 0 A B C D W5) := Lib.hid (by rw [hW5]; exact L4.out.bl (bl_alloc (Below.refl _ _) _))
          have X5 : Hid (W5.heap[q]? = some (A9 false mode a b c d ch le tr)) := Lib.hid (by rw [hW5]; exact hp_old X4.out _)
          have R5 : Hid (W5.heap[r]? = some (RC m A B C D)) := Lib.hid (by rw [hW5]; exact hp_old R4.out _)
          have T5 : Hid (W5.heap[q5]? = some (Q4 0 0 0 0)) := Lib.hid (by rw [hW5, hq5]; exact hp_new w4 _)
          rw [← hq5, ← hW5]
          clear hq5 hW5 L4 X4 R4
          refine (rtick_any r m A B C D ch le tr _ L1.out.mo.mode R5.out).mono ?_
          intro e w6 hh
          unfold RTick at hh
          rw [hte.out, show aim 0 A B C D = .agg #[.int .i64 0, .int .i64 0, .int .i64 0, .int .i64 0] from rfl] at hh
          obtain ⟨rfl, ho, hm⟩ := hh
          have L6 : Hid (PL w f r 0 A B C D w6) := Lib.hid ⟨⟨hm.keeps L5.out.obj (by have := L1.out.fr; omega), L5.out.mode, bl_mod L5.out.below hm L1.out.rb, L5.out.base⟩, ho, L1.out.fr, L1.out.rb⟩
          have X6 := Lib.hid (hm.keeps X5.out (by omega))
          have T6 := Lib.hid (hm.keeps T5.out (by omega))
          clear ho hm
          have t0 : w6.cell? ⟨q5, 0, none⟩ = some (.int .i64 0) := cell_of (i := 0) T6.out rfl
          have t1 : w6.cell? ⟨q5, 1, none⟩ = some (.int .i64 0) := cell_of (i := 1) T6.out rfl
          have t2 : w6.cell? ⟨q5, 2, none⟩ = some (.int .i64 0) := cell_of (i := 2) T6.out rfl
          have t3 : w6.cell? ⟨q5, 3, none⟩ = some (.int .i64 0) := cell_of (i := 3) T6.out rfl
          have xl6 := lt_of_obj T6.out
          go_wp2_with (fail)
          clear t0 t1 t2 t3
          obtain ⟨q7, hq7⟩ : ∃ q7, q7 = w6.heap.size := ⟨_, rfl⟩
          obtain ⟨W7, hW7⟩ : ∃ W7, W7 = w6.alloc (.cells #[.int .i64 0, .int .i64 0, .int .i64 0, .int .i64 0] 28) := ⟨_, rfl⟩
          have L7 : Hid (PL w f r 0 A B C D W7) := Lib.hid (by rw [hW7]; exact L6.out.bl (bl_alloc (Below.refl _ _) _))
          have X7 : Hid (W7.heap[q]? = some (A9 false mode a b c d ch le tr)) := Lib.hid (by rw [hW7]; exact hp_old X6.out _)
          have T7 : Hid (W7.heap[q5]? = some (Q4 0 0 0 0)) := Lib.hid (by rw [hW7]; exact hp_old T6.out _)
          have U7 : Hid (W7.heap[q7]? = some (Q4 0 0 0 0)) := Lib.hid (by rw [hW7, hq7]; exact hp_new w6 _)
          rw [← hq7, ← hW7]
          clear hq7 hW7 L6 X6 T6
          have ql : q < W7.heap.size := lt_of_obj X7.out
          have rc0 := (rc_cells r 0 A B C D (L7.out).rc).1
          have rl := lt_of_obj (L7.out).rc
          have MM : Hid (∀ x : Ext, (ext W7 x).heap[f]? = some (MC 0 A B C D)) := Lib.hid (fun x => hp_ext (L7.out).mo.obj x)
          have RR : Hid (∀ x : Ext, (ext W7 x).heap[r]? = some (RC 0 A B C D)) := Lib.hid (fun x => hp_ext (L7.out).rc x)
          obtain ⟨al, hal⟩ : ∃ al, Hid (allowB 0 rank = al) := ⟨_, Lib.hid rfl⟩
          have AL : Hid (∀ x : Ext, Calls Try.prog 15 #[.pointer (some ⟨f, 0, none⟩), .int .i64 rank] (ext W7 x) fun e w' => e = .returned (.bool al) ∧ ext W7 x = w') := Lib.hid (fun x => by have := allows_any f rank 0 A B C D _ (MM.out x); rw [hal.out] at this; exact this)
          have RL : Hid (∀ x : Ext, Calls Try.prog 16 #[.pointer (some ⟨r, 0, none⟩), .int .i64 rank] (ext W7 x) fun e w' => e = .returned (.bool al) ∧ ext W7 x = w') := Lib.hid (fun x => by have := refallows_any r rank 0 A B C D _ (RR.out x); rw [hal.out] at this; exact this)
          refine region_calm (by kernel_rfl) (by kernel_rfl) ?_
          repeat (quiet_step ((first | (go_at_call 14; exact calm_same (mode_any f 0 A B C D _ (MM.out _))) | (go_at_call 15; exact calm_same (AL.out _)) | (go_at_call 16; exact calm_same (RL.out _)))))
          refine wpQuiet_nil ?_
          intro w9 hw'
          have L9 := Lib.hid ((L7.out).bl (below_of_ext hw'))
          clear hw'
          go_wp2_with (fail)
          go_roundw
          case rel => exact ⟨k + 1, 0, A, B, C, D, by omega, by go_num, L9.out⟩
          case measure => simp [intOf]; omega
        · skip
          refine (tick_any f m A B C D ch le tr _ L1.out.mo.mode L1.out.mo.obj).mono ?_
          intro e w4 hh
          unfold TickR at hh
          rw [hte.out, show aim 1 A B C D = .agg #[.int .i64 0, .int .i64 0, .int .i64 0, .int .i64 0] from rfl] at hh
          obtain ⟨rfl, ho, hm⟩ := hh
          have L4 : Hid (MO w f 1 A B C D w4) := Lib.hid ⟨ho, by omega, bl_mod L1.out.mo.below hm L1.out.mo.base, L1.out.mo.base⟩
          have X4 := Lib.hid (hm.keeps X1.out (by omega))
          have R4 := Lib.hid (hm.keeps L1.out.rc (by have := L1.out.fr; omega))
          clear ho hm
          have x6 : w4.cell? ⟨q, 6, none⟩ = some (.int .i64 ch) := cell_of (i := 6) X4.out rfl
          have x7 : w4.cell? ⟨q, 7, none⟩ = some (.int .i64 le) := cell_of (i := 7) X4.out rfl
          have x8 : w4.cell? ⟨q, 8, none⟩ = some (.bool tr) := cell_of (i := 8) X4.out rfl
          have xl4 := lt_of_obj X4.out
          go_wp2_with (fail)
          clear x6 x7 x8
          obtain ⟨q5, hq5⟩ : ∃ q5, q5 = w4.heap.size := ⟨_, rfl⟩
          obtain ⟨W5, hW5⟩ : ∃ W5, W5 = w4.alloc (.cells #[.int .i64 0, .int .i64 0, .int .i64 0, .int .i64 0] 28) := ⟨_, rfl⟩
          have hq5l : q < q5 := by rw [hq5]; exact lt_of_obj X4.out
          have L5 : Hid (MO w f 1 A B C D W5) := Lib.hid (by rw [hW5]; exact L4.out.bl (bl_alloc (Below.refl _ _) _))
          have X5 : Hid (W5.heap[q]? = some (A9 false mode a b c d ch le tr)) := Lib.hid (by rw [hW5]; exact hp_old X4.out _)
          have R5 : Hid (W5.heap[r]? = some (RC m A B C D)) := Lib.hid (by rw [hW5]; exact hp_old R4.out _)
          have T5 : Hid (W5.heap[q5]? = some (Q4 0 0 0 0)) := Lib.hid (by rw [hW5, hq5]; exact hp_new w4 _)
          rw [← hq5, ← hW5]
          clear hq5 hW5 L4 X4 R4
          refine (rtick_any r m A B C D ch le tr _ L1.out.mo.mode R5.out).mono ?_
          intro e w6 hh
          unfold RTick at hh
          rw [hte.out, show aim 1 A B C D = .agg #[.int .i64 0, .int .i64 0, .int .i64 0, .int .i64 0] from rfl] at hh
          obtain ⟨rfl, ho, hm⟩ := hh
          have L6 : Hid (PL w f r 1 A B C D w6) := Lib.hid ⟨⟨hm.keeps L5.out.obj (by have := L1.out.fr; omega), L5.out.mode, bl_mod L5.out.below hm L1.out.rb, L5.out.base⟩, ho, L1.out.fr, L1.out.rb⟩
          have X6 := Lib.hid (hm.keeps X5.out (by omega))
          have T6 := Lib.hid (hm.keeps T5.out (by omega))
          clear ho hm
          have t0 : w6.cell? ⟨q5, 0, none⟩ = some (.int .i64 0) := cell_of (i := 0) T6.out rfl
          have t1 : w6.cell? ⟨q5, 1, none⟩ = some (.int .i64 0) := cell_of (i := 1) T6.out rfl
          have t2 : w6.cell? ⟨q5, 2, none⟩ = some (.int .i64 0) := cell_of (i := 2) T6.out rfl
          have t3 : w6.cell? ⟨q5, 3, none⟩ = some (.int .i64 0) := cell_of (i := 3) T6.out rfl
          have xl6 := lt_of_obj T6.out
          go_wp2_with (fail)
          clear t0 t1 t2 t3
          obtain ⟨q7, hq7⟩ : ∃ q7, q7 = w6.heap.size := ⟨_, rfl⟩
          obtain ⟨W7, hW7⟩ : ∃ W7, W7 = w6.alloc (.cells #[.int .i64 0, .int .i64 0, .int .i64 0, .int .i64 0] 28) := ⟨_, rfl⟩
          have L7 : Hid (PL w f r 1 A B C D W7) := Lib.hid (by rw [hW7]; exact L6.out.bl (bl_alloc (Below.refl _ _) _))
          have X7 : Hid (W7.heap[q]? = some (A9 false mode a b c d ch le tr)) := Lib.hid (by rw [hW7]; exact hp_old X6.out _)
          have T7 : Hid (W7.heap[q5]? = some (Q4 0 0 0 0)) := Lib.hid (by rw [hW7]; exact hp_old T6.out _)
          have U7 : Hid (W7.heap[q7]? = some (Q4 0 0 0 0)) := Lib.hid (by rw [hW7, hq7]; exact hp_new w6 _)
          rw [← hq7, ← hW7]
          clear hq7 hW7 L6 X6 T6
          have ql : q < W7.heap.size := lt_of_obj X7.out
          have rc0 := (rc_cells r 1 A B C D (L7.out).rc).1
          have rl := lt_of_obj (L7.out).rc
          have MM : Hid (∀ x : Ext, (ext W7 x).heap[f]? = some (MC 1 A B C D)) := Lib.hid (fun x => hp_ext (L7.out).mo.obj x)
          have RR : Hid (∀ x : Ext, (ext W7 x).heap[r]? = some (RC 1 A B C D)) := Lib.hid (fun x => hp_ext (L7.out).rc x)
          obtain ⟨al, hal⟩ : ∃ al, Hid (allowB 1 rank = al) := ⟨_, Lib.hid rfl⟩
          have AL : Hid (∀ x : Ext, Calls Try.prog 15 #[.pointer (some ⟨f, 0, none⟩), .int .i64 rank] (ext W7 x) fun e w' => e = .returned (.bool al) ∧ ext W7 x = w') := Lib.hid (fun x => by have := allows_any f rank 1 A B C D _ (MM.out x); rw [hal.out] at this; exact this)
          have RL : Hid (∀ x : Ext, Calls Try.prog 16 #[.pointer (some ⟨r, 0, none⟩), .int .i64 rank] (ext W7 x) fun e w' => e = .returned (.bool al) ∧ ext W7 x = w') := Lib.hid (fun x => by have := refallows_any r rank 1 A B C D _ (RR.out x); rw [hal.out] at this; exact this)
          refine region_calm (by kernel_rfl) (by kernel_rfl) ?_
          repeat (quiet_step ((first | (go_at_call 14; exact calm_same (mode_any f 1 A B C D _ (MM.out _))) | (go_at_call 15; exact calm_same (AL.out _)) | (go_at_call 16; exact calm_same (RL.out _)))))
          refine wpQuiet_nil ?_
          intro w9 hw'
          have L9 := Lib.hid ((L7.out).bl (below_of_ext hw'))
          clear hw'
          go_wp2_with (fail)
          go_roundw
          case rel => exact ⟨k + 1, 1, A, B, C, D, by omega, by go_num, L9.out⟩
          case measure => simp [intOf]; omega
        · skip
          refine (tick_any f m A B C D ch le tr _ L1.out.mo.mode L1.out.mo.obj).mono ?_
          intro e w4 hh
          unfold TickR at hh
          rw [hte.out, show aim 2 A B C D = .agg #[.int .i64 A, .int .i64 B, .int .i64 C, .int .i64 D] from rfl] at hh
          obtain ⟨rfl, ho, hm⟩ := hh
          have L4 : Hid (MO w f 2 A B C D w4) := Lib.hid ⟨ho, by omega, bl_mod L1.out.mo.below hm L1.out.mo.base, L1.out.mo.base⟩
          have X4 := Lib.hid (hm.keeps X1.out (by omega))
          have R4 := Lib.hid (hm.keeps L1.out.rc (by have := L1.out.fr; omega))
          clear ho hm
          have x6 : w4.cell? ⟨q, 6, none⟩ = some (.int .i64 ch) := cell_of (i := 6) X4.out rfl
          have x7 : w4.cell? ⟨q, 7, none⟩ = some (.int .i64 le) := cell_of (i := 7) X4.out rfl
          have x8 : w4.cell? ⟨q, 8, none⟩ = some (.bool tr) := cell_of (i := 8) X4.out rfl
          have xl4 := lt_of_obj X4.out
          go_wp2_with (fail)
          clear x6 x7 x8
          obtain ⟨q5, hq5⟩ : ∃ q5, q5 = w4.heap.size := ⟨_, rfl⟩
          obtain ⟨W5, hW5⟩ : ∃ W5, W5 = w4.alloc (.cells #[.int .i64 A, .int .i64 B, .int .i64 C, .int .i64 D] 28) := ⟨_, rfl⟩
          have hq5l : q < q5 := by rw [hq5]; exact lt_of_obj X4.out
          have L5 : Hid (MO w f 2 A B C D W5) := Lib.hid (by rw [hW5]; exact L4.out.bl (bl_alloc (Below.refl _ _) _))
          have X5 : Hid (W5.heap[q]? = some (A9 false mode a b c d ch le tr)) := Lib.hid (by rw [hW5]; exact hp_old X4.out _)
          have R5 : Hid (W5.heap[r]? = some (RC m A B C D)) := Lib.hid (by rw [hW5]; exact hp_old R4.out _)
          have T5 : Hid (W5.heap[q5]? = some (Q4 A B C D)) := Lib.hid (by rw [hW5, hq5]; exact hp_new w4 _)
          rw [← hq5, ← hW5]
          clear hq5 hW5 L4 X4 R4
          refine (rtick_any r m A B C D ch le tr _ L1.out.mo.mode R5.out).mono ?_
          intro e w6 hh
          unfold RTick at hh
          rw [hte.out, show aim 2 A B C D = .agg #[.int .i64 A, .int .i64 B, .int .i64 C, .int .i64 D] from rfl] at hh
          obtain ⟨rfl, ho, hm⟩ := hh
          have L6 : Hid (PL w f r 2 A B C D w6) := Lib.hid ⟨⟨hm.keeps L5.out.obj (by have := L1.out.fr; omega), L5.out.mode, bl_mod L5.out.below hm L1.out.rb, L5.out.base⟩, ho, L1.out.fr, L1.out.rb⟩
          have X6 := Lib.hid (hm.keeps X5.out (by omega))
          have T6 := Lib.hid (hm.keeps T5.out (by omega))
          clear ho hm
          have t0 : w6.cell? ⟨q5, 0, none⟩ = some (.int .i64 A) := cell_of (i := 0) T6.out rfl
          have t1 : w6.cell? ⟨q5, 1, none⟩ = some (.int .i64 B) := cell_of (i := 1) T6.out rfl
          have t2 : w6.cell? ⟨q5, 2, none⟩ = some (.int .i64 C) := cell_of (i := 2) T6.out rfl
          have t3 : w6.cell? ⟨q5, 3, none⟩ = some (.int .i64 D) := cell_of (i := 3) T6.out rfl
          have xl6 := lt_of_obj T6.out
          go_wp2_with (fail)
          clear t0 t1 t2 t3
          obtain ⟨q7, hq7⟩ : ∃ q7, q7 = w6.heap.size := ⟨_, rfl⟩
          obtain ⟨W7, hW7⟩ : ∃ W7, W7 = w6.alloc (.cells #[.int .i64 A, .int .i64 B, .int .i64 C, .int .i64 D] 28) := ⟨_, rfl⟩
          have L7 : Hid (PL w f r 2 A B C D W7) := Lib.hid (by rw [hW7]; exact L6.out.bl (bl_alloc (Below.refl _ _) _))
          have X7 : Hid (W7.heap[q]? = some (A9 false mode a b c d ch le tr)) := Lib.hid (by rw [hW7]; exact hp_old X6.out _)
          have T7 : Hid (W7.heap[q5]? = some (Q4 A B C D)) := Lib.hid (by rw [hW7]; exact hp_old T6.out _)
          have U7 : Hid (W7.heap[q7]? = some (Q4 A B C D)) := Lib.hid (by rw [hW7, hq7]; exact hp_new w6 _)
          rw [← hq7, ← hW7]
          clear hq7 hW7 L6 X6 T6
          have ql : q < W7.heap.size := lt_of_obj X7.out
          have rc0 := (rc_cells r 2 A B C D (L7.out).rc).1
          have rl := lt_of_obj (L7.out).rc
          have MM : Hid (∀ x : Ext, (ext W7 x).heap[f]? = some (MC 2 A B C D)) := Lib.hid (fun x => hp_ext (L7.out).mo.obj x)
          have RR : Hid (∀ x : Ext, (ext W7 x).heap[r]? = some (RC 2 A B C D)) := Lib.hid (fun x => hp_ext (L7.out).rc x)
          obtain ⟨al, hal⟩ : ∃ al, Hid (allowB 2 rank = al) := ⟨_, Lib.hid rfl⟩
          have AL : Hid (∀ x : Ext, Calls Try.prog 15 #[.pointer (some ⟨f, 0, none⟩), .int .i64 rank] (ext W7 x) fun e w' => e = .returned (.bool al) ∧ ext W7 x = w') := Lib.hid (fun x => by have := allows_any f rank 2 A B C D _ (MM.out x); rw [hal.out] at this; exact this)
          have RL : Hid (∀ x : Ext, Calls Try.prog 16 #[.pointer (some ⟨r, 0, none⟩), .int .i64 rank] (ext W7 x) fun e w' => e = .returned (.bool al) ∧ ext W7 x = w') := Lib.hid (fun x => by have := refallows_any r rank 2 A B C D _ (RR.out x); rw [hal.out] at this; exact this)
          refine region_calm (by kernel_rfl) (by kernel_rfl) ?_
          repeat (quiet_step ((first | (go_at_call 14; exact calm_same (mode_any f 2 A B C D _ (MM.out _))) | (go_at_call 15; exact calm_same (AL.out _)) | (go_at_call 16; exact calm_same (RL.out _)))))
          refine wpQuiet_nil ?_
          intro w9 hw'
          have L9 := Lib.hid ((L7.out).bl (below_of_ext hw'))
          clear hw'
          go_wp2_with (fail)
          go_roundw
          case rel => exact ⟨k + 1, 2, A, B, C, D, by omega, by go_num, L9.out⟩
          case measure => simp [intOf]; omega
      · obtain ⟨E, hE⟩ : ∃ E, Hid (askErr m mode a b c d ch le tr = E) := ⟨_, Lib.hid rfl⟩
        obtain ⟨m', A', B', C', D', ho1, ho2, hr3⟩ := both_obj m A B C D mode a b c d ch le tr HP.out.mo.mode
        have O1 := Lib.hid ho1; have O2 := Lib.hid ho2; have O3 := Lib.hid hr3
        clear ho1 ho2 hr3
        go_wp2_with (fail)
        obtain ⟨q, hq⟩ : ∃ q, q = wr.heap.size := ⟨_, rfl⟩
        obtain ⟨W1, hW1⟩ : ∃ W1, W1 = wr.alloc (.cells #[.bool true, .int .i64 mode, .int .i64 a, .int .i64 b, .int .i64 c, .int .i64 d, .int .i64 ch, .int .i64 le, .bool tr] 34) := ⟨_, rfl⟩
        have hfq : f < q := by rw [hq]; exact lt_of_obj HP.out.mo.obj
        have hrq : r < q := by rw [hq]; exact lt_of_obj HP.out.rc
        have L1 : Hid (PL w f r m A B C D W1) := Lib.hid (by rw [hW1]; exact HP.out.bl (bl_alloc (Below.refl _ _) _))
        have X1 : Hid (W1.heap[q]? = some (A9 true mode a b c d ch le tr)) := Lib.hid (by rw [hW1, hq]; exact hp_new wr _)
        rw [← hq, ← hW1]
        clear hq hW1 y0 y1 y2 y3 y4 y5 y6 y7 y8
        have x1 : W1.cell? ⟨q, 1, none⟩ = some (.int .i64 mode) := cell_of (i := 1) X1.out rfl
        have x2 : W1.cell? ⟨q, 2, none⟩ = some (.int .i64 a) := cell_of (i := 2) X1.out rfl
        have x3 : W1.cell? ⟨q, 3, none⟩ = some (.int .i64 b) := cell_of (i := 3) X1.out rfl
        have x4 : W1.cell? ⟨q, 4, none⟩ = some (.int .i64 c) := cell_of (i := 4) X1.out rfl
        have x5 : W1.cell? ⟨q, 5, none⟩ = some (.int .i64 d) := cell_of (i := 5) X1.out rfl
        have x6 : W1.cell? ⟨q, 6, none⟩ = some (.int .i64 ch) := cell_of (i := 6) X1.out rfl
        have x7 : W1.cell? ⟨q, 7, none⟩ = some (.int .i64 le) := cell_of (i := 7) X1.out rfl
        have x8 : W1.cell? ⟨q, 8, none⟩ = some (.bool tr) := cell_of (i := 8) X1.out rfl
        have F1 : Hid (W1.drew.heap[f]? = some (MC m A B C D)) := Lib.hid L1.out.mo.obj
        have R1 : Hid (W1.drew.heap[r]? = some (RC m A B C D)) := Lib.hid L1.out.rc
        have X2 : Hid (W1.drew.heap[q]? = some (A9 true mode a b c d ch le tr)) := Lib.hid X1.out
        have FR := Lib.hid L1.out.fr
        have MD : Hid (Mod (fun k => k = f ∨ k = r) W1 W1.drew) := Lib.hid (Mod.refl _ _).drew
        go_region_held3 (fun w' => w'.cell? ⟨q, 1, none⟩ = some (.int .i64 mode) ∧ w'.cell? ⟨q, 2, none⟩ = some (.int .i64 a) ∧ w'.cell? ⟨q, 3, none⟩ = some (.int .i64 b) ∧ w'.cell? ⟨q, 4, none⟩ = some (.int .i64 c) ∧ w'.cell? ⟨q, 5, none⟩ = some (.int .i64 d) ∧ w'.cell? ⟨q, 6, none⟩ = some (.int .i64 ch) ∧ w'.cell? ⟨q, 7, none⟩ = some (.int .i64 le) ∧ w'.cell? ⟨q, 8, none⟩ = some (.bool tr)) (go_keep)
          ((first | (go_at_call 10; refine (ask_as F1.out HQ.out hE.out O1.out).mono ?_; rintro e W2 ⟨rfl, ho, hm⟩; replace F1 := Lib.hid ho; replace R1 := Lib.hid (hm.keeps R1.out (by have := FR.out; omega)); replace X2 := Lib.hid (hm.keeps X2.out (by omega)); replace MD := Lib.hid (MD.out.trans hm (fun _ _ h => Or.inl h)); have x1 : W2.cell? ⟨q, 1, none⟩ = some (.int .i64 mode) := cell_of (i := 1) X2.out rfl; have x2 : W2.cell? ⟨q, 2, none⟩ = some (.int .i64 a) := cell_of (i := 2) X2.out rfl; have x3 : W2.cell? ⟨q, 3, none⟩ = some (.int .i64 b) := cell_of (i := 3) X2.out rfl; have x4 : W2.cell? ⟨q, 4, none⟩ = some (.int .i64 c) := cell_of (i := 4) X2.out rfl; have x5 : W2.cell? ⟨q, 5, none⟩ = some (.int .i64 d) := cell_of (i := 5) X2.out rfl; have x6 : W2.cell? ⟨q, 6, none⟩ = some (.int .i64 ch) := cell_of (i := 6) X2.out rfl; have x7 : W2.cell? ⟨q, 7, none⟩ = some (.int .i64 le) := cell_of (i := 7) X2.out rfl; have x8 : W2.cell? ⟨q, 8, none⟩ = some (.bool tr) := cell_of (i := 8) X2.out rfl; clear ho hm) | (go_at_call 11; refine (rask_as R1.out hE.out O2.out).mono ?_; rintro e W2 ⟨rfl, ho, hm⟩; replace R1 := Lib.hid ho; replace F1 := Lib.hid (hm.keeps F1.out (by have := FR.out; omega)); replace X2 := Lib.hid (hm.keeps X2.out (by omega)); replace MD := Lib.hid (MD.out.trans hm (fun _ _ h => Or.inr h)); have x1 : W2.cell? ⟨q, 1, none⟩ = some (.int .i64 mode) := cell_of (i := 1) X2.out rfl; have x2 : W2.cell? ⟨q, 2, none⟩ = some (.int .i64 a) := cell_of (i := 2) X2.out rfl; have x3 : W2.cell? ⟨q, 3, none⟩ = some (.int .i64 b) := cell_of (i := 3) X2.out rfl; have x4 : W2.cell? ⟨q, 4, none⟩ = some (.int .i64 c) := cell_of (i := 4) X2.out rfl; have x5 : W2.cell? ⟨q, 5, none⟩ = some (.int .i64 d) := cell_of (i := 5) X2.out rfl; have x6 : W2.cell? ⟨q, 6, none⟩ = some (.int .i64 ch) := cell_of (i := 6) X2.out rfl; have x7 : W2.cell? ⟨q, 7, none⟩ = some (.int .i64 le) := cell_of (i := 7) X2.out rfl; have x8 : W2.cell? ⟨q, 8, none⟩ = some (.bool tr) := cell_of (i := 8) X2.out rfl; clear ho hm)))
        go_wp2_with (fail)
        have L8 := Lib.hid (show PL w f r m' A' B' C' D' _ from ⟨⟨F1.out, O3.out, L1.out.mo.below.trans (MD.out.below L1.out.mo.below.size (fun k hk => by rcases hk with rfl | rfl; exact L1.out.mo.base; exact L1.out.rb)), L1.out.mo.base⟩, R1.out, FR.out, L1.out.rb⟩)
        have ql : q < W2.heap.size := lt_of_obj X2.out
        have rc0 := (rc_cells r m' A' B' C' D' (L8.out).rc).1
        have rl := lt_of_obj (L8.out).rc
        have MM : Hid (∀ x : Ext, (ext W2 x).heap[f]? = some (MC m' A' B' C' D')) := Lib.hid (fun x => hp_ext (L8.out).mo.obj x)
        have RR : Hid (∀ x : Ext, (ext W2 x).heap[r]? = some (RC m' A' B' C' D')) := Lib.hid (fun x => hp_ext (L8.out).rc x)
        obtain ⟨al, hal⟩ : ∃ al, Hid (allowB m' rank = al) := ⟨_, Lib.hid rfl⟩
        have AL : Hid (∀ x : Ext, Calls Try.prog 15 #[.pointer (some ⟨f, 0, none⟩), .int .i64 rank] (ext W2 x) fun e w' => e = .returned (.bool al) ∧ ext W2 x = w') := Lib.hid (fun x => by have := allows_any f rank m' A' B' C' D' _ (MM.out x); rw [hal.out] at this; exact this)
        have RL : Hid (∀ x : Ext, Calls Try.prog 16 #[.pointer (some ⟨r, 0, none⟩), .int .i64 rank] (ext W2 x) fun e w' => e = .returned (.bool al) ∧ ext W2 x = w') := Lib.hid (fun x => by have := refallows_any r rank m' A' B' C' D' _ (RR.out x); rw [hal.out] at this; exact this)
        refine region_calm (by kernel_rfl) (by kernel_rfl) ?_
        repeat (quiet_step ((first | (go_at_call 14; exact calm_same (mode_any f m' A' B' C' D' _ (MM.out _))) | (go_at_call 15; exact calm_same (AL.out _)) | (go_at_call 16; exact calm_same (RL.out _)))))
        refine wpQuiet_nil ?_
        intro w9 hw'
        have L9 := Lib.hid ((L8.out).bl (below_of_ext hw'))
        clear hw'
        go_wp2_with (fail)
        go_roundw
        case rel => exact ⟨k + 1, m', A', B', C', D', by omega, by go_num, L9.out⟩
        case measure => simp [intOf]; omega
    · go_wp2_with (fail)
      go_ret
      exact ⟨rfl, HP.out.mo.below⟩
theorem ModesPlays_walk (a0 : Value) (a1 : Int) (w : World) (w0 : Kit.SlIn [.inr false, .inl .i64, .inl .i64, .inl .i64, .inl .i64, .inl .i64, .inl .i64, .inl .i64, .inr false] w a0) (w1 : (Lit.int .i64 a1).wf = true) :
    Calls Try.prog 3 #[a0, .int .i64 a1] w fun e w' => e = .returned (.bool true) ∧ Below w.heap.size w w' := by
  obtain ⟨X, hX, hl, hS⟩ := slIn_l w0
  obtain ⟨xa, xc, rfl, hxc, hxm⟩ := hX.shape
  clear w0 w1
  unfold maxLen at hl hxm
  obtain ⟨N, hN⟩ : ∃ N, N = X.length := ⟨_, rfl⟩
  rw [← hN] at hl hxc hX ⊢
  by_cases h500 : (500 : Int) < (N : Int)
  · clear hX hS hN
    go_enter Try.func3, Try.ntmps3
    go_wp2_with (fail)
    refine (shown_any _).mono ?_
    rintro e w1 ⟨rfl, hb1⟩
    have B1 := Lib.hid hb1; clear hb1
    go_wp2_with (fail)
    go_ret
    exact ⟨rfl, B1.out⟩
  · exact plays_main xa xc N X hN a1 w hX hS (by omega) hxc (by omega)
end Go.Proofs.Ytfjhlgmdkkdooaa
