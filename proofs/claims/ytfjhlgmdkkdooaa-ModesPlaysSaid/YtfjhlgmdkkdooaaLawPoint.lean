/-
  The walk of the law ModesPoint. Conditions: none.
-/
import Derived.Test.YtfjhlgmdkkdooaaActs
import Derived.Test.YtfjhlgmdkkdooaaRefVal
namespace Go.Proofs.Ytfjhlgmdkkdooaa
open Go.RowKit Kit
set_option linter.unusedVariables false
def Q4 (a b c d : Int) : Obj := .cells #[.int .i64 a, .int .i64 b, .int .i64 c, .int .i64 d] 28
def A9 (s : Bool) (mode a b c d ch le : Int) (tr : Bool) : Obj := .cells #[.bool s, .int .i64 mode, .int .i64 a, .int .i64 b, .int .i64 c, .int .i64 d, .int .i64 ch, .int .i64 le, .bool tr] 34
/-- The object, and the last target. -/
structure PT (w : World) (f p : Nat) (m A B C D la lb lc ld : Int) (W : World) : Prop where
  mo : MO w f m A B C D W
  last : W.heap[p]? = some (Q4 la lb lc ld)
  pf : f < p
  eq : m = 2 → A = la ∧ B = lb ∧ C = lc ∧ D = ld
theorem PT.bl {w W W' : World} {f p : Nat} {m A B C D la lb lc ld : Int} (h : PT w f p m A B C D la lb lc ld W) (hb : Below W.heap.size W W') : PT w f p m A B C D la lb lc ld W' :=
  ⟨h.mo.bl hb, below_keeps hb h.last (lt_of_obj h.last), h.pf, h.eq⟩
theorem PT.md {w W W' : World} {f p : Nat} {m A B C D la lb lc ld m' A' B' C' D' : Int} (h : PT w f p m A B C D la lb lc ld W) (ho : W'.heap[f]? = some (MC m' A' B' C' D')) (hm' : m' = 0 ∨ m' = 1 ∨ m' = 2) (hm : Mod (fun k => k = f) W W') (he : m' = 2 → A' = la ∧ B' = lb ∧ C' = lc ∧ D' = ld) : PT w f p m' A' B' C' D' la lb lc ld W' :=
  ⟨⟨ho, hm', bl_mod h.mo.below hm h.mo.base, h.mo.base⟩, hm.keeps h.last (by have := h.pf; omega), h.pf, he⟩
theorem PT.set {w W : World} {f p : Nat} {m A B C D la lb lc ld a b c d : Int} (h : MO w f m A B C D W) (hl : W.heap[p]? = some (Q4 la lb lc ld)) (hpf : f < p) (he : m = 2 → A = a ∧ B = b ∧ C = c ∧ D = d) :
    PT w f p m A B C D a b c d ((((W.setCell ⟨p, 0, none⟩ (.int .i64 a)).setCell ⟨p, 1, none⟩ (.int .i64 b)).setCell ⟨p, 2, none⟩ (.int .i64 c)).setCell ⟨p, 3, none⟩ (.int .i64 d)) := by
  have hne : f ≠ p := by omega
  have hp : w.heap.size ≤ p := Nat.le_trans h.base (by omega)
  exact ⟨⟨hp_set_ne (hp_set_ne (hp_set_ne (hp_set_ne h.obj hne _) hne _) hne _) hne _, h.mode, bl_set (bl_set (bl_set (bl_set h.below hp _) hp _) hp _) hp _, h.base⟩, hp_as (hp_set (hp_set (hp_set (hp_set hl _) _) _) _) rfl, hpf, he⟩
theorem ask_keeps {m mode a b c d ch le A B C D : Int} {tr : Bool} (h : askErr m mode a b c d ch le tr ≠ 0) : askObj m A B C D mode a b c d ch le tr = MC m A B C D := by unfold askObj; rw [if_neg h]
theorem ask_ok {m mode a b c d ch le : Int} {tr : Bool} (h : askErr m mode a b c d ch le tr = 0) : (mode = 0 ∨ mode = 1 ∨ mode = 2) ∧ (mode = 2 → qv [a, b, c, d] = true) := by
  unfold askErr at h
  split at h
  · omega
  · rename_i h1
    refine ⟨by omega, fun hm => ?_⟩
    cases hv : qv [a, b, c, d]
    · exact absurd (.inr (.inr ⟨hm, hv⟩)) h1
    · rfl
theorem ask_sets {m mode a b c d ch le A B C D : Int} {tr : Bool} (h : askErr m mode a b c d ch le tr = 0) (hm : mode ≠ 2) : askObj m A B C D mode a b c d ch le tr = MC mode A B C D := by unfold askObj; rw [if_pos h, if_neg hm]
theorem ask_aims {m a b c d ch le A B C D : Int} {tr : Bool} (h : askErr m 2 a b c d ch le tr = 0) : askObj m A B C D 2 a b c d ch le tr = MC 2 a b c d := by unfold askObj; rw [if_pos h, if_pos rfl]
theorem tkm_in {m ch le : Int} {tr : Bool} (h : m = 0 ∨ m = 1 ∨ m = 2) : (tkm m ch le tr = 0 ∨ tkm m ch le tr = 1 ∨ tkm m ch le tr = 2) ∧ (tkm m ch le tr = 2 → m = 2) := by
  unfold tkm; split
  · exact ⟨h, fun h => h⟩
  · exact ⟨.inl rfl, fun h => by omega⟩
set_option maxRecDepth 100000 in
set_option maxHeartbeats 6400000 in
theorem point_main (xa : Option Addr) (xc N : Nat) (X : List (List Value)) (hN : N = X.length) (w : World) (hX : SlL 9 w (.slice xa N xc) X) (hS : ∀ x ∈ X, scAll ks9 x) (hl : N ≤ 500) (hxc : N ≤ xc) (hxm : xc ≤ 9223372036854775807) :
    Calls Try.prog 6 #[.slice xa N xc] w fun e w' => e = .returned (.bool true) ∧ Below w.heap.size w w' := by
  have HN := Lib.hid hN; have HX := Lib.hid hX; have HSC := Lib.hid hS
  have h5 : decide ((500 : Int) < (N : Int)) = false := by simp; omega
  clear hN hX hS
  go_enter Try.func6, Try.ntmps6
  go_wp2_with (fail)
  refine (shown_any _).mono ?_
  rintro e w1 ⟨rfl, hb1⟩
  have B1 := Lib.hid hb1; clear hb1
  go_wp2_with (fail)
  refine (new_any _).mono ?_
  rintro e w2 ⟨rfl, hw2⟩
  have P2 : Hid (PT w w1.heap.size (w1.heap.size + 1) 0 0 0 0 0 0 0 0 0 (w2.alloc (Q4 0 0 0 0))) := Lib.hid (by
    rw [hw2]; exact ⟨⟨hp_old (hp_new w1 _) _, .inl rfl, bl_alloc (bl_alloc B1.out _) _, B1.out.size⟩, by simpa using hp_new (w1.alloc _) _, by omega, fun h => by omega⟩)
  have hs2 : w2.heap.size = w1.heap.size + 1 := by rw [hw2]; simp
  have HS2 := Lib.hid hs2
  clear hw2 hs2
  go_wp2_with (fail)
  rw [show Obj.cells #[.int .i64 0, .int .i64 0, .int .i64 0, .int .i64 0] 28 = Q4 0 0 0 0 from rfl, HS2.out]
  obtain ⟨W3, hW3⟩ : ∃ W3, W3 = w2.alloc (Q4 0 0 0 0) := ⟨_, rfl⟩
  obtain ⟨f, hf⟩ : ∃ f, f = w1.heap.size := ⟨_, rfl⟩
  rw [← hf, ← hW3] at P2
  rw [← hf, ← hW3]
  obtain ⟨p, hp⟩ : ∃ p, p = f + 1 := ⟨_, rfl⟩
  rw [← hp] at P2 ⊢
  clear hf hW3 hp B1 HS2
  go_loopw [5] (fun i wr => ∃ (k : Nat) (m A B C D la lb lc ld : Int), k ≤ N ∧ i = .int .i64 k ∧ PT w f p m A B C D la lb lc ld wr) (fun i _ => N - (intOf i).toNat)
  case atStart => exact ⟨0, 0, 0, 0, 0, 0, 0, 0, 0, 0, by omega, rfl, P2.out⟩
  case round =>
    clear P2
    obtain ⟨k, m, A, B, C, D, la, lb, lc, ld, hk, rfl, hP⟩ := hrel
    have HP := Lib.hid hP
    clear hP
    by_cases hlt : k < N
    · skip
      obtain ⟨x, hx, hxm⟩ := some_of (X := X) (k := k) (by have := HN.out; omega)
      obtain ⟨s, mode, a, b, c, d, ch, le, tr, rfl, hq⟩ := act_open (HSC.out x hxm)
      obtain ⟨bb, off, rfl, hbw, hbr, hc⟩ := HX.out.row HP.out.mo.below hx
      have y0 : wr.cell? ⟨bb, off + k * 9, none⟩ = some (.bool s) := hc 0 (by omega)
      have y1 : wr.cell? ⟨bb, off + k * 9 + 1, none⟩ = some (.int .i64 mode) := hc 1 (by omega)
      have y2 : wr.cell? ⟨bb, off + k * 9 + 2, none⟩ = some (.int .i64 a) := hc 2 (by omega)
      have y3 : wr.cell? ⟨bb, off + k * 9 + 3, none⟩ = some (.int .i64 b) := hc 3 (by omega)
      have y4 : wr.cell? ⟨bb, off + k * 9 + 4, none⟩ = some (.int .i64 c) := hc 4 (by omega)
      have y5 : wr.cell? ⟨bb, off + k * 9 + 5, none⟩ = some (.int .i64 d) := hc 5 (by omega)
      have y6 : wr.cell? ⟨bb, off + k * 9 + 6, none⟩ = some (.int .i64 ch) := hc 6 (by omega)
      have y7 : wr.cell? ⟨bb, off + k * 9 + 7, none⟩ = some (.int .i64 le) := hc 7 (by omega)
      have y8 : wr.cell? ⟨bb, off + k * 9 + 8, none⟩ = some (.bool tr) := hc 8 (by omega)
      have HQ := Lib.hid hq
      clear hc hx hxm hq
      obtain ⟨q, hq⟩ : ∃ q, q = wr.heap.size := ⟨_, rfl⟩
      have hfq : f < q := by rw [hq]; exact lt_of_obj HP.out.mo.obj
      have hpq : p < q := by rw [hq]; exact lt_of_obj HP.out.last
      have HQW := Lib.hid hq
      clear hq
      have L1 : Hid (PT w f p m A B C D la lb lc ld (wr.alloc (A9 s mode a b c d ch le tr))) := Lib.hid (HP.out.bl (bl_alloc (Below.refl _ _) _))
      have X1 : Hid ((wr.alloc (A9 s mode a b c d ch le tr)).heap[q]? = some (A9 s mode a b c d ch le tr)) := Lib.hid (by rw [HQW.out]; exact hp_new wr _)
      rcases s
      · obtain ⟨ht, h2⟩ := tkm_in (ch := ch) (le := le) (tr := tr) HP.out.mo.mode
        obtain ⟨t, hte⟩ : ∃ t, Hid (tkm m ch le tr = t) := ⟨_, Lib.hid rfl⟩
        rw [hte.out] at ht h2
        have H2 := Lib.hid h2
        clear h2
        have he2 : t = 2 → A = la ∧ B = lb ∧ C = lc ∧ D = ld := fun h => HP.out.eq (H2.out h)
        have HE2 := Lib.hid he2
        clear he2
        rcases ht with rfl | rfl | rfl
        · go_wp2_with (fail)
          refine (tick_mo L1.out.mo).mono ?_
          rw [hte.out]
          rintro e w4 ⟨rfl, hM4, hm4⟩
          rw [show aim 0 A B C D = .agg #[.int .i64 0, .int .i64 0, .int .i64 0, .int .i64 0] from rfl]
          have T4 := Lib.hid ((L1.out.md hM4.obj hM4.mode hm4 (fun h => HE2.out h)).bl (bl_alloc (Below.refl _ _) (Q4 0 0 0 0)))
          clear hM4 hm4
          have n0 : (w4.alloc (Q4 0 0 0 0)).cell? ⟨w4.heap.size, 0, none⟩ = some (.int .i64 0) := cell_of (i := 0) (hp_new w4 (Q4 0 0 0 0)) rfl
          have n1 : (w4.alloc (Q4 0 0 0 0)).cell? ⟨w4.heap.size, 1, none⟩ = some (.int .i64 0) := cell_of (i := 1) (hp_new w4 (Q4 0 0 0 0)) rfl
          have n2 : (w4.alloc (Q4 0 0 0 0)).cell? ⟨w4.heap.size, 2, none⟩ = some (.int .i64 0) := cell_of (i := 2) (hp_new w4 (Q4 0 0 0 0)) rfl
          have n3 : (w4.alloc (Q4 0 0 0 0)).cell? ⟨w4.heap.size, 3, none⟩ = some (.int .i64 0) := cell_of (i := 3) (hp_new w4 (Q4 0 0 0 0)) rfl
          go_wp2_with (fail)
          refine (mode_any f 0 A B C D _ T4.out.mo.obj).mono ?_
          rintro e _ ⟨rfl, rfl⟩
          go_wp2_with (fail)
          go_roundw
          case rel => exact ⟨k + 1, 0, A, B, C, D, la, lb, lc, ld, by omega, by go_num, T4.out⟩
          case measure => simp [intOf]; omega
        · go_wp2_with (fail)
          refine (tick_mo L1.out.mo).mono ?_
          rw [hte.out]
          rintro e w4 ⟨rfl, hM4, hm4⟩
          rw [show aim 1 A B C D = .agg #[.int .i64 0, .int .i64 0, .int .i64 0, .int .i64 0] from rfl]
          have T4 := Lib.hid ((L1.out.md hM4.obj hM4.mode hm4 (fun h => HE2.out h)).bl (bl_alloc (Below.refl _ _) (Q4 0 0 0 0)))
          clear hM4 hm4
          have n0 : (w4.alloc (Q4 0 0 0 0)).cell? ⟨w4.heap.size, 0, none⟩ = some (.int .i64 0) := cell_of (i := 0) (hp_new w4 (Q4 0 0 0 0)) rfl
          have n1 : (w4.alloc (Q4 0 0 0 0)).cell? ⟨w4.heap.size, 1, none⟩ = some (.int .i64 0) := cell_of (i := 1) (hp_new w4 (Q4 0 0 0 0)) rfl
          have n2 : (w4.alloc (Q4 0 0 0 0)).cell? ⟨w4.heap.size, 2, none⟩ = some (.int .i64 0) := cell_of (i := 2) (hp_new w4 (Q4 0 0 0 0)) rfl
          have n3 : (w4.alloc (Q4 0 0 0 0)).cell? ⟨w4.heap.size, 3, none⟩ = some (.int .i64 0) := cell_of (i := 3) (hp_new w4 (Q4 0 0 0 0)) rfl
          go_wp2_with (fail)
          refine (mode_any f 1 A B C D _ T4.out.mo.obj).mono ?_
          rintro e _ ⟨rfl, rfl⟩
          go_wp2_with (fail)
          go_roundw
          case rel => exact ⟨k + 1, 1, A, B, C, D, la, lb, lc, ld, by omega, by go_num, T4.out⟩
          case measure => simp [intOf]; omega
        · obtain ⟨rfl, rfl, rfl, rfl⟩ := HE2.out rfl
          go_wp2_with (fail)
          refine (tick_mo L1.out.mo).mono ?_
          rw [hte.out]
          rintro e w4 ⟨rfl, hM4, hm4⟩
          rw [show aim 2 A B C D = .agg #[.int .i64 A, .int .i64 B, .int .i64 C, .int .i64 D] from rfl]
          have T4 := Lib.hid ((L1.out.md hM4.obj hM4.mode hm4 (fun _ => ⟨rfl, rfl, rfl, rfl⟩)).bl (bl_alloc (Below.refl _ _) (Q4 A B C D)))
          clear hM4 hm4
          have n0 : (w4.alloc (Q4 A B C D)).cell? ⟨w4.heap.size, 0, none⟩ = some (.int .i64 A) := cell_of (i := 0) (hp_new w4 (Q4 A B C D)) rfl
          have n1 : (w4.alloc (Q4 A B C D)).cell? ⟨w4.heap.size, 1, none⟩ = some (.int .i64 B) := cell_of (i := 1) (hp_new w4 (Q4 A B C D)) rfl
          have n2 : (w4.alloc (Q4 A B C D)).cell? ⟨w4.heap.size, 2, none⟩ = some (.int .i64 C) := cell_of (i := 2) (hp_new w4 (Q4 A B C D)) rfl
          have n3 : (w4.alloc (Q4 A B C D)).cell? ⟨w4.heap.size, 3, none⟩ = some (.int .i64 D) := cell_of (i := 3) (hp_new w4 (Q4 A B C D)) rfl
          have z0 : (w4.alloc (Q4 A B C D)).cell? ⟨p, 0, none⟩ = some (.int .i64 A) := cell_of (i := 0) T4.out.last rfl
          have z1 : (w4.alloc (Q4 A B C D)).cell? ⟨p, 1, none⟩ = some (.int .i64 B) := cell_of (i := 1) T4.out.last rfl
          have z2 : (w4.alloc (Q4 A B C D)).cell? ⟨p, 2, none⟩ = some (.int .i64 C) := cell_of (i := 2) T4.out.last rfl
          have z3 : (w4.alloc (Q4 A B C D)).cell? ⟨p, 3, none⟩ = some (.int .i64 D) := cell_of (i := 3) T4.out.last rfl
          go_wp2_with (fail)
          refine (mode_any f 2 A B C D _ T4.out.mo.obj).mono ?_
          rintro e _ ⟨rfl, rfl⟩
          go_wp2_with (fail)
          go_roundw
          case rel => exact ⟨k + 1, 2, A, B, C, D, A, B, C, D, by omega, by go_num, T4.out⟩
          case measure => simp [intOf]; omega
      · obtain ⟨E, hE⟩ : ∃ E, Hid (askErr m mode a b c d ch le tr = E) := ⟨_, Lib.hid rfl⟩
        rcases hb0 : (E == 0)
        · have KO := Lib.hid (ask_keeps (A := A) (B := B) (C := C) (D := D) (show askErr m mode a b c d ch le tr ≠ 0 by rw [hE.out]; simpa using hb0))
          go_wp2_with (fail)
          refine (ask_as L1.out.mo.obj HQ.out hE.out KO.out).mono ?_
          rintro e w4 ⟨rfl, ho, hm⟩
          have T4 := Lib.hid (L1.out.md ho HP.out.mo.mode hm HP.out.eq)
          have X4 := Lib.hid (hm.keeps X1.out (by omega))
          clear ho hm
          have x0 : w4.cell? ⟨wr.heap.size, 0, none⟩ = some (.bool true) := by rw [← HQW.out]; exact cell_of (i := 0) X4.out rfl
          have x1 : w4.cell? ⟨wr.heap.size, 1, none⟩ = some (.int .i64 mode) := by rw [← HQW.out]; exact cell_of (i := 1) X4.out rfl
          have x2 : w4.cell? ⟨wr.heap.size, 2, none⟩ = some (.int .i64 a) := by rw [← HQW.out]; exact cell_of (i := 2) X4.out rfl
          have x3 : w4.cell? ⟨wr.heap.size, 3, none⟩ = some (.int .i64 b) := by rw [← HQW.out]; exact cell_of (i := 3) X4.out rfl
          have x4 : w4.cell? ⟨wr.heap.size, 4, none⟩ = some (.int .i64 c) := by rw [← HQW.out]; exact cell_of (i := 4) X4.out rfl
          have x5 : w4.cell? ⟨wr.heap.size, 5, none⟩ = some (.int .i64 d) := by rw [← HQW.out]; exact cell_of (i := 5) X4.out rfl
          have x6 : w4.cell? ⟨wr.heap.size, 6, none⟩ = some (.int .i64 ch) := by rw [← HQW.out]; exact cell_of (i := 6) X4.out rfl
          have x7 : w4.cell? ⟨wr.heap.size, 7, none⟩ = some (.int .i64 le) := by rw [← HQW.out]; exact cell_of (i := 7) X4.out rfl
          have x8 : w4.cell? ⟨wr.heap.size, 8, none⟩ = some (.bool tr) := by rw [← HQW.out]; exact cell_of (i := 8) X4.out rfl
          go_wp2_with (fail)
          refine region_calm (by kernel_rfl) (by kernel_rfl) ?_
          repeat (quiet_step (fail))
          refine wpQuiet_nil ?_
          intro w5 hw'
          have T5 := Lib.hid (T4.out.bl (below_of_ext hw'))
          clear hw'
          go_wp2_with (fail)
          go_roundw
          case rel => exact ⟨k + 1, m, A, B, C, D, la, lb, lc, ld, by omega, by go_num, T5.out⟩
          case measure => simp [intOf]; omega
        · have hE0 : E = 0 := by simpa using hb0
          subst hE0
          obtain ⟨hm3, hv⟩ := ask_ok hE.out
          have HM3 := Lib.hid hm3
          rcases Decidable.em (mode = 2) with rfl | hmn
          · have HV := Lib.hid (hv rfl)
            have KO := Lib.hid (ask_aims (A := A) (B := B) (C := C) (D := D) hE.out)
            clear hv hm3
            go_wp2_with (fail)
            refine (ask_as L1.out.mo.obj HQ.out hE.out KO.out).mono ?_
            rintro e w4 ⟨rfl, ho, hm⟩
            have T4 := Lib.hid (show MO w f 2 a b c d w4 ∧ w4.heap[p]? = some (Q4 la lb lc ld) from ⟨⟨ho, .inr (.inr rfl), bl_mod L1.out.mo.below hm L1.out.mo.base, L1.out.mo.base⟩, hm.keeps L1.out.last (by have := L1.out.pf; omega)⟩)
            have X4 := Lib.hid (hm.keeps X1.out (by omega))
            clear ho hm
            have x0 : w4.cell? ⟨wr.heap.size, 0, none⟩ = some (.bool true) := by rw [← HQW.out]; exact cell_of (i := 0) X4.out rfl
            have x1 : w4.cell? ⟨wr.heap.size, 1, none⟩ = some (.int .i64 2) := by rw [← HQW.out]; exact cell_of (i := 1) X4.out rfl
            have x2 : w4.cell? ⟨wr.heap.size, 2, none⟩ = some (.int .i64 a) := by rw [← HQW.out]; exact cell_of (i := 2) X4.out rfl
            have x3 : w4.cell? ⟨wr.heap.size, 3, none⟩ = some (.int .i64 b) := by rw [← HQW.out]; exact cell_of (i := 3) X4.out rfl
            have x4 : w4.cell? ⟨wr.heap.size, 4, none⟩ = some (.int .i64 c) := by rw [← HQW.out]; exact cell_of (i := 4) X4.out rfl
            have x5 : w4.cell? ⟨wr.heap.size, 5, none⟩ = some (.int .i64 d) := by rw [← HQW.out]; exact cell_of (i := 5) X4.out rfl
            have x6 : w4.cell? ⟨wr.heap.size, 6, none⟩ = some (.int .i64 ch) := by rw [← HQW.out]; exact cell_of (i := 6) X4.out rfl
            have x7 : w4.cell? ⟨wr.heap.size, 7, none⟩ = some (.int .i64 le) := by rw [← HQW.out]; exact cell_of (i := 7) X4.out rfl
            have x8 : w4.cell? ⟨wr.heap.size, 8, none⟩ = some (.bool tr) := by rw [← HQW.out]; exact cell_of (i := 8) X4.out rfl
            go_wp2_with (fail)
            refine (refvalid_any _ _ _ _ _).mono ?_
            rw [HV.out]
            rintro e w5 ⟨rfl, hb5⟩
            have T5 := Lib.hid (show MO w f 2 a b c d w5 ∧ w5.heap[p]? = some (Q4 la lb lc ld) from ⟨T4.out.1.bl hb5, below_keeps hb5 T4.out.2 (lt_of_obj T4.out.2)⟩)
            have X5 := Lib.hid (below_keeps hb5 X4.out (lt_of_obj X4.out))
            clear hb5 T4 X4 x0 x1 x2 x3 x4 x5 x6 x7 x8
            have x0 : w5.cell? ⟨wr.heap.size, 0, none⟩ = some (.bool true) := by rw [← HQW.out]; exact cell_of (i := 0) X5.out rfl
            have x1 : w5.cell? ⟨wr.heap.size, 1, none⟩ = some (.int .i64 2) := by rw [← HQW.out]; exact cell_of (i := 1) X5.out rfl
            have x2 : w5.cell? ⟨wr.heap.size, 2, none⟩ = some (.int .i64 a) := by rw [← HQW.out]; exact cell_of (i := 2) X5.out rfl
            have x3 : w5.cell? ⟨wr.heap.size, 3, none⟩ = some (.int .i64 b) := by rw [← HQW.out]; exact cell_of (i := 3) X5.out rfl
            have x4 : w5.cell? ⟨wr.heap.size, 4, none⟩ = some (.int .i64 c) := by rw [← HQW.out]; exact cell_of (i := 4) X5.out rfl
            have x5 : w5.cell? ⟨wr.heap.size, 5, none⟩ = some (.int .i64 d) := by rw [← HQW.out]; exact cell_of (i := 5) X5.out rfl
            have x6 : w5.cell? ⟨wr.heap.size, 6, none⟩ = some (.int .i64 ch) := by rw [← HQW.out]; exact cell_of (i := 6) X5.out rfl
            have x7 : w5.cell? ⟨wr.heap.size, 7, none⟩ = some (.int .i64 le) := by rw [← HQW.out]; exact cell_of (i := 7) X5.out rfl
            have x8 : w5.cell? ⟨wr.heap.size, 8, none⟩ = some (.bool tr) := by rw [← HQW.out]; exact cell_of (i := 8) X5.out rfl
            have pl := lt_of_obj T5.out.2
            have ql : wr.heap.size < w5.heap.size := by rw [← HQW.out]; exact lt_of_obj X5.out
            have qne : p ≠ wr.heap.size := by rw [← HQW.out]; omega
            have pfz : ∀ j, w5.frozen? ⟨p, j, none⟩ = false := fun j => free_of T5.out.2
            have pc0 : w5.cell? ⟨p, 0, none⟩ = some (.int .i64 la) := cell_of (i := 0) T5.out.2 rfl
            have pc1 : w5.cell? ⟨p, 1, none⟩ = some (.int .i64 lb) := cell_of (i := 1) T5.out.2 rfl
            have pc2 : w5.cell? ⟨p, 2, none⟩ = some (.int .i64 lc) := cell_of (i := 2) T5.out.2 rfl
            have pc3 : w5.cell? ⟨p, 3, none⟩ = some (.int .i64 ld) := cell_of (i := 3) T5.out.2 rfl
            go_wp2_with (fail)
            obtain ⟨W6, hW6⟩ : ∃ W6, W6 = (((w5.setCell ⟨p, 0, none⟩ (.int .i64 a)).setCell ⟨p, 1, none⟩ (.int .i64 b)).setCell ⟨p, 2, none⟩ (.int .i64 c)).setCell ⟨p, 3, none⟩ (.int .i64 d) := ⟨_, rfl⟩
            have T6 : Hid (PT w f p 2 a b c d a b c d W6) := Lib.hid (by rw [hW6]; exact PT.set T5.out.1 T5.out.2 HP.out.pf (fun _ => ⟨rfl, rfl, rfl, rfl⟩))
            have X6 : Hid (W6.heap[q]? = some (A9 true 2 a b c d ch le tr)) := Lib.hid (by rw [hW6]; exact hp_set_ne (hp_set_ne (hp_set_ne (hp_set_ne X5.out (by omega) _) (by omega) _) (by omega) _) (by omega) _)
            rw [← hW6]
            clear hW6 T5 X5 x0 x1 x2 x3 x4 x5 x6 x7 x8 pc0 pc1 pc2 pc3 pfz pl ql
            have x1 : W6.cell? ⟨wr.heap.size, 1, none⟩ = some (.int .i64 2) := by rw [← HQW.out]; exact cell_of (i := 1) X6.out rfl
            have ql : wr.heap.size < W6.heap.size := by rw [← HQW.out]; exact lt_of_obj X6.out
            have M6 : Hid (∀ x : Ext, (ext W6 x).heap[f]? = some (MC 2 a b c d)) := Lib.hid (fun x => hp_ext T6.out.mo.obj x)
            refine region_calm (by kernel_rfl) (by kernel_rfl) ?_
            repeat (quiet_step ((go_at_call 14; exact calm_same (mode_any f 2 a b c d _ (M6.out _)))))
            refine wpQuiet_nil ?_
            intro w7 hw'
            have T7 := Lib.hid (T6.out.bl (below_of_ext hw'))
            clear hw'
            go_wp2_with (fail)
            go_roundw
            case rel => exact ⟨k + 1, 2, a, b, c, d, a, b, c, d, by omega, by go_num, T7.out⟩
            case measure => simp [intOf]; omega
          · have KO := Lib.hid (ask_sets (A := A) (B := B) (C := C) (D := D) hE.out hmn)
            have hbn : (mode == 2) = false := by simpa using hmn
            have HMN := Lib.hid hmn
            clear hv hm3 hmn
            go_wp2_with (fail)
            refine (ask_as L1.out.mo.obj HQ.out hE.out KO.out).mono ?_
            rintro e w4 ⟨rfl, ho, hm⟩
            have T4 := Lib.hid (L1.out.md ho HM3.out hm (fun h => absurd h HMN.out))
            have X4 := Lib.hid (hm.keeps X1.out (by omega))
            clear ho hm
            have x0 : w4.cell? ⟨wr.heap.size, 0, none⟩ = some (.bool true) := by rw [← HQW.out]; exact cell_of (i := 0) X4.out rfl
            have x1 : w4.cell? ⟨wr.heap.size, 1, none⟩ = some (.int .i64 mode) := by rw [← HQW.out]; exact cell_of (i := 1) X4.out rfl
            have x2 : w4.cell? ⟨wr.heap.size, 2, none⟩ = some (.int .i64 a) := by rw [← HQW.out]; exact cell_of (i := 2) X4.out rfl
            have x3 : w4.cell? ⟨wr.heap.size, 3, none⟩ = some (.int .i64 b) := by rw [← HQW.out]; exact cell_of (i := 3) X4.out rfl
            have x4 : w4.cell? ⟨wr.heap.size, 4, none⟩ = some (.int .i64 c) := by rw [← HQW.out]; exact cell_of (i := 4) X4.out rfl
            have x5 : w4.cell? ⟨wr.heap.size, 5, none⟩ = some (.int .i64 d) := by rw [← HQW.out]; exact cell_of (i := 5) X4.out rfl
            have x6 : w4.cell? ⟨wr.heap.size, 6, none⟩ = some (.int .i64 ch) := by rw [← HQW.out]; exact cell_of (i := 6) X4.out rfl
            have x7 : w4.cell? ⟨wr.heap.size, 7, none⟩ = some (.int .i64 le) := by rw [← HQW.out]; exact cell_of (i := 7) X4.out rfl
            have x8 : w4.cell? ⟨wr.heap.size, 8, none⟩ = some (.bool tr) := by rw [← HQW.out]; exact cell_of (i := 8) X4.out rfl
            have ql : wr.heap.size < w4.heap.size := by rw [← HQW.out]; exact lt_of_obj X4.out
            have M4 : Hid (∀ x : Ext, (ext w4 x).heap[f]? = some (MC mode A B C D)) := Lib.hid (fun x => hp_ext T4.out.mo.obj x)
            go_wp2_with (fail)
            refine region_calm (by kernel_rfl) (by kernel_rfl) ?_
            repeat (quiet_step ((go_at_call 14; exact calm_same (mode_any f mode A B C D _ (M4.out _)))))
            refine wpQuiet_nil ?_
            intro w7 hw'
            have T7 := Lib.hid (T4.out.bl (below_of_ext hw'))
            clear hw'
            go_wp2_with (fail)
            go_roundw
            case rel => exact ⟨k + 1, mode, A, B, C, D, la, lb, lc, ld, by omega, by go_num, T7.out⟩
            case measure => simp [intOf]; omega
    · go_wp2_with (fail)
      go_ret
      exact ⟨rfl, HP.out.mo.below⟩
theorem ModesPoint_walk (a0 : Value) (w : World) (w0 : Kit.SlIn [.inr false, .inl .i64, .inl .i64, .inl .i64, .inl .i64, .inl .i64, .inl .i64, .inl .i64, .inr false] w a0) :
    Calls Try.prog 6 #[a0] w fun e w' => e = .returned (.bool true) ∧ Below w.heap.size w w' := by
  obtain ⟨X, hX, hl, hS⟩ := slIn_l w0
  obtain ⟨xa, xc, rfl, hxc, hxm⟩ := hX.shape
  clear w0
  unfold maxLen at hl hxm
  obtain ⟨N, hN⟩ : ∃ N, N = X.length := ⟨_, rfl⟩
  rw [← hN] at hl hxc hX ⊢
  by_cases h500 : (500 : Int) < (N : Int)
  · clear hX hS hN
    go_enter Try.func6, Try.ntmps6
    go_wp2_with (fail)
    refine (shown_any _).mono ?_
    rintro e w1 ⟨rfl, hb1⟩
    have B1 := Lib.hid hb1; clear hb1
    go_wp2_with (fail)
    go_ret
    exact ⟨rfl, B1.out⟩
  · exact point_main xa xc N X hN w hX hS (by omega) hxc (by omega)
end Go.Proofs.Ytfjhlgmdkkdooaa
