/-
  The walk of next. Conditions: valid windows.
-/
import Derived.Test.YtacdigofjlbimaaChk
import Derived.Laws.ResultCell
namespace Go.Proofs.Ytacdigofjlbimaa
open Go.RowKit Kit
set_option linter.unusedVariables false
/-- The last window's number: -1, none. -/
def lz : Option Nat → Int
  | none => -1
  | some j => j
abbrev pt (last : Int) (left bud : Int) : Value := .agg #[.int .i64 last, .int .i64 left, .int .i64 bud]
/-- What a planner is. -/
def PO (w : World) (p : Nat) (a : Option Addr) (n c : Nat) (gap : Int) (mb : Nat) : Prop := w.heap[p]? = some (.cells #[.slice a n c, .int .i64 gap, .map (some mb)] 53)
theorem nx_fin {Q : Ending → World → Prop} {W : World} {R : Nat} {x y z : Int} {t : Bool} {c : Array Value} (tmps : Array Value) (h6 : tmps.getD 6 undef = .pointer (some ⟨R, 0, none⟩)) (h7 : tmps.getD 7 undef = .bool t) (hr : W.heap[R]? = some (.cells c 55)) (hc : c = #[.int .i64 x, .int .i64 y, .int .i64 z])
    (hp : Q (.returned (.tuple #[pt x y z, .bool t])) W) : bodyPost Try.prog Try.f27 Q .ret { tmps := tmps, defers := [] } W := by
  subst hc
  refine ⟨rfl, _, ?_, hp⟩
  have r0 := cell_of (i := 0) hr rfl
  have r1 := cell_of (i := 1) hr rfl
  have r2 := cell_of (i := 2) hr rfl
  show (results Try.f27 tmps).run Try.prog W = _
  rw [results_cell_tmp rfl, h6, h7]
  go_simp
set_option maxHeartbeats 3200000 in
theorem next_none (fr tt st va co gap z K bud : Int) (b off i n c mb p : Nat) (w : World) (hi : i < n) (hcap : n ≤ c) (hcap2 : c ≤ 2 ^ 63 - 1) (hbl : b < w.heap.size) (c0 : w.cell? ⟨b, off + i * 5, none⟩ = some (.int .i64 fr)) (c1 : w.cell? ⟨b, off + i * 5 + 1, none⟩ = some (.int .i64 tt)) (c2 : w.cell? ⟨b, off + i * 5 + 2, none⟩ = some (.int .i64 st)) (c3 : w.cell? ⟨b, off + i * 5 + 3, none⟩ = some (.int .i64 va)) (c4 : w.cell? ⟨b, off + i * 5 + 4, none⟩ = some (.int .i64 co)) (hp : PO w p (some ⟨b, off, none⟩) n c gap mb) (vco : 0 ≤ co ∧ co ≤ 1000) (vbud : 0 ≤ bud ∧ bud ≤ 1000) (vK : 0 ≤ K ∧ K ≤ 40) (hK : (K == 0) = true) :
    Calls Try.prog 27 #[.pointer (some ⟨p, 0, none⟩), pt z K bud, .int .i64 i] w fun e w' => e = .returned (.tuple #[pt z K bud, .bool false]) ∧ Below w.heap.size w w' := by
  obtain ⟨v1, v2⟩ := vco
  obtain ⟨v3, v4⟩ := vbud
  obtain ⟨v5, v6⟩ := vK
  have HP := Lib.hid hp
  have p0 : w.cell? ⟨p, 0, none⟩ = some (.slice (some ⟨b, off, none⟩) n c) := cell_of hp rfl
  have p1 : w.cell? ⟨p, 1, none⟩ = some (.int .i64 gap) := cell_of hp rfl
  have hpl := lt_of_obj hp
  clear hp
  unfold PO at HP
  obtain ⟨W3, hW3⟩ : ∃ W3, W3 = ((w.alloc (.cells #[.int .i64 z, .int .i64 K, .int .i64 bud] 55)).alloc (.cells #[.int .i64 0, .int .i64 0, .int .i64 0] 55)).alloc (.cells #[.int .i64 fr, .int .i64 tt, .int .i64 st, .int .i64 va, .int .i64 co] 39) := ⟨_, rfl⟩
  have HW3 := Lib.hid hW3
  clear hW3
  go_enter Try.func27, Try.ntmps27
  go_wp2_with (fail)
  rw [← HW3.out]
  have B3 : Hid (Below w.heap.size w W3) := Lib.hid (by rw [HW3.out]; exact bl_alloc (bl_alloc (bl_alloc (Below.refl _ _) _) _) _)
  have O0 : W3.heap[w.heap.size]? = some (.cells #[.int .i64 z, .int .i64 K, .int .i64 bud] 55) := by rw [HW3.out]; exact hp_old (hp_old (hp_new w _) _) _
  have O1 : W3.heap[w.heap.size + 1]? = some (.cells #[.int .i64 0, .int .i64 0, .int .i64 0] 55) := by rw [HW3.out]; have := hp_old (hp_new (w.alloc (.cells #[.int .i64 z, .int .i64 K, .int .i64 bud] 55)) (.cells #[.int .i64 0, .int .i64 0, .int .i64 0] 55)) (.cells #[.int .i64 fr, .int .i64 tt, .int .i64 st, .int .i64 va, .int .i64 co] 39); rw [World.size_alloc] at this; exact this
  have O2 : W3.heap[w.heap.size + 1 + 1]? = some (.cells #[.int .i64 fr, .int .i64 tt, .int .i64 st, .int .i64 va, .int .i64 co] 39) := by rw [HW3.out]; have := hp_new ((w.alloc (.cells #[.int .i64 z, .int .i64 K, .int .i64 bud] 55)).alloc (.cells #[.int .i64 0, .int .i64 0, .int .i64 0] 55)) (.cells #[.int .i64 fr, .int .i64 tt, .int .i64 st, .int .i64 va, .int .i64 co] 39); rw [World.size_alloc, World.size_alloc] at this; exact this
  have P3 := below_keeps B3.out HP.out hpl
  have hsz := B3.out.size
  have l0 := lt_of_obj O0
  have l1 := lt_of_obj O1
  have l2 := lt_of_obj O2
  have hpl3 : p < W3.heap.size := by omega
  have HO := Lib.hid (And.intro O0 (And.intro O1 O2))
  have z0 : W3.cell? ⟨w.heap.size, 0, none⟩ = some (.int .i64 z) := cell_of O0 rfl
  have z1 : W3.cell? ⟨w.heap.size, 1, none⟩ = some (.int .i64 K) := cell_of O0 rfl
  have z2 : W3.cell? ⟨w.heap.size, 2, none⟩ = some (.int .i64 bud) := cell_of O0 rfl
  have x0 : W3.cell? ⟨w.heap.size + 1 + 1, 0, none⟩ = some (.int .i64 fr) := cell_of O2 rfl
  have x1 : W3.cell? ⟨w.heap.size + 1 + 1, 1, none⟩ = some (.int .i64 tt) := cell_of O2 rfl
  have x2 : W3.cell? ⟨w.heap.size + 1 + 1, 2, none⟩ = some (.int .i64 st) := cell_of O2 rfl
  have x3 : W3.cell? ⟨w.heap.size + 1 + 1, 3, none⟩ = some (.int .i64 va) := cell_of O2 rfl
  have x4 : W3.cell? ⟨w.heap.size + 1 + 1, 4, none⟩ = some (.int .i64 co) := cell_of O2 rfl
  have q0 : W3.cell? ⟨p, 0, none⟩ = some (.slice (some ⟨b, off, none⟩) n c) := cell_of P3 rfl
  have q1 : W3.cell? ⟨p, 1, none⟩ = some (.int .i64 gap) := cell_of P3 rfl
  skip
  clear O0 O1 O2 P3 p0 p1 c0 c1 c2 c3 c4
  refine region_calm (by kernel_rfl) (by kernel_rfl) ?_
  repeat (go_big_quiet_step ((fail)))
  refine wpQuiet_nil ?_; intro W4 hw'; have hb4 := below_of_ext hw'; clear hw'
  have y0 : W4.heap[w.heap.size]? = some (.cells #[.int .i64 z, .int .i64 K, .int .i64 bud] 55) := below_keeps hb4 HO.out.1 l0
  have y1 : W4.heap[w.heap.size + 1]? = some (.cells #[.int .i64 0, .int .i64 0, .int .i64 0] 55) := below_keeps hb4 HO.out.2.1 l1
  have y2 : W4.heap[w.heap.size + 1 + 1]? = some (.cells #[.int .i64 fr, .int .i64 tt, .int .i64 st, .int .i64 va, .int .i64 co] 39) := below_keeps hb4 HO.out.2.2 l2
  have m0 := lt_of_obj y0
  have m1 := lt_of_obj y1
  have m2 := lt_of_obj y2
  have B4 := Lib.hid (bl_step B3.out hb4)
  have u0 : W4.cell? ⟨w.heap.size, 0, none⟩ = some (.int .i64 z) := cell_of y0 rfl
  have u1 : W4.cell? ⟨w.heap.size, 1, none⟩ = some (.int .i64 K) := cell_of y0 rfl
  have u2 : W4.cell? ⟨w.heap.size, 2, none⟩ = some (.int .i64 bud) := cell_of y0 rfl
  have t4 : W4.cell? ⟨w.heap.size + 1 + 1, 4, none⟩ = some (.int .i64 co) := cell_of y2 rfl
  have s0 : W4.cell? ⟨w.heap.size + 1, 0, none⟩ = some (.int .i64 0) := cell_of y1 rfl
  have s1 : W4.cell? ⟨w.heap.size + 1, 1, none⟩ = some (.int .i64 0) := cell_of y1 rfl
  have s2 : W4.cell? ⟨w.heap.size + 1, 2, none⟩ = some (.int .i64 0) := cell_of y1 rfl
  have f0 := free_of (i := 0) y1
  have f1 := free_of (i := 1) y1
  have f2 := free_of (i := 2) y1
  have Y1 := Lib.hid y1
  clear y0 y1 y2 hb4 z0 z1 z2 x0 x1 x2 x3 x4 q0 q1 l0 l1 l2 hsz hpl3
  go_wp2_with (fail)
  exact nx_fin _ rfl rfl (hp_set (hp_set (hp_set Y1.out _) _) _) rfl ⟨rfl, bl_set (bl_set (bl_set B4.out (by omega) _) (by omega) _) (by omega) _⟩
set_option maxHeartbeats 3200000 in
theorem next_dear (fr tt st va co gap z K bud : Int) (b off i n c mb p : Nat) (w : World) (hi : i < n) (hcap : n ≤ c) (hcap2 : c ≤ 2 ^ 63 - 1) (hbl : b < w.heap.size) (c0 : w.cell? ⟨b, off + i * 5, none⟩ = some (.int .i64 fr)) (c1 : w.cell? ⟨b, off + i * 5 + 1, none⟩ = some (.int .i64 tt)) (c2 : w.cell? ⟨b, off + i * 5 + 2, none⟩ = some (.int .i64 st)) (c3 : w.cell? ⟨b, off + i * 5 + 3, none⟩ = some (.int .i64 va)) (c4 : w.cell? ⟨b, off + i * 5 + 4, none⟩ = some (.int .i64 co)) (hp : PO w p (some ⟨b, off, none⟩) n c gap mb) (vco : 0 ≤ co ∧ co ≤ 1000) (vbud : 0 ≤ bud ∧ bud ≤ 1000) (vK : 0 ≤ K ∧ K ≤ 40) (hK : (K == 0) = false) (hco : bud < co) :
    Calls Try.prog 27 #[.pointer (some ⟨p, 0, none⟩), pt z K bud, .int .i64 i] w fun e w' => e = .returned (.tuple #[pt z K bud, .bool false]) ∧ Below w.heap.size w w' := by
  obtain ⟨v1, v2⟩ := vco
  obtain ⟨v3, v4⟩ := vbud
  obtain ⟨v5, v6⟩ := vK
  have HP := Lib.hid hp
  have p0 : w.cell? ⟨p, 0, none⟩ = some (.slice (some ⟨b, off, none⟩) n c) := cell_of hp rfl
  have p1 : w.cell? ⟨p, 1, none⟩ = some (.int .i64 gap) := cell_of hp rfl
  have hpl := lt_of_obj hp
  clear hp
  unfold PO at HP
  obtain ⟨W3, hW3⟩ : ∃ W3, W3 = ((w.alloc (.cells #[.int .i64 z, .int .i64 K, .int .i64 bud] 55)).alloc (.cells #[.int .i64 0, .int .i64 0, .int .i64 0] 55)).alloc (.cells #[.int .i64 fr, .int .i64 tt, .int .i64 st, .int .i64 va, .int .i64 co] 39) := ⟨_, rfl⟩
  have HW3 := Lib.hid hW3
  clear hW3
  go_enter Try.func27, Try.ntmps27
  go_wp2_with (fail)
  rw [← HW3.out]
  have B3 : Hid (Below w.heap.size w W3) := Lib.hid (by rw [HW3.out]; exact bl_alloc (bl_alloc (bl_alloc (Below.refl _ _) _) _) _)
  have O0 : W3.heap[w.heap.size]? = some (.cells #[.int .i64 z, .int .i64 K, .int .i64 bud] 55) := by rw [HW3.out]; exact hp_old (hp_old (hp_new w _) _) _
  have O1 : W3.heap[w.heap.size + 1]? = some (.cells #[.int .i64 0, .int .i64 0, .int .i64 0] 55) := by rw [HW3.out]; have := hp_old (hp_new (w.alloc (.cells #[.int .i64 z, .int .i64 K, .int .i64 bud] 55)) (.cells #[.int .i64 0, .int .i64 0, .int .i64 0] 55)) (.cells #[.int .i64 fr, .int .i64 tt, .int .i64 st, .int .i64 va, .int .i64 co] 39); rw [World.size_alloc] at this; exact this
  have O2 : W3.heap[w.heap.size + 1 + 1]? = some (.cells #[.int .i64 fr, .int .i64 tt, .int .i64 st, .int .i64 va, .int .i64 co] 39) := by rw [HW3.out]; have := hp_new ((w.alloc (.cells #[.int .i64 z, .int .i64 K, .int .i64 bud] 55)).alloc (.cells #[.int .i64 0, .int .i64 0, .int .i64 0] 55)) (.cells #[.int .i64 fr, .int .i64 tt, .int .i64 st, .int .i64 va, .int .i64 co] 39); rw [World.size_alloc, World.size_alloc] at this; exact this
  have P3 := below_keeps B3.out HP.out hpl
  have hsz := B3.out.size
  have l0 := lt_of_obj O0
  have l1 := lt_of_obj O1
  have l2 := lt_of_obj O2
  have hpl3 : p < W3.heap.size := by omega
  have HO := Lib.hid (And.intro O0 (And.intro O1 O2))
  have z0 : W3.cell? ⟨w.heap.size, 0, none⟩ = some (.int .i64 z) := cell_of O0 rfl
  have z1 : W3.cell? ⟨w.heap.size, 1, none⟩ = some (.int .i64 K) := cell_of O0 rfl
  have z2 : W3.cell? ⟨w.heap.size, 2, none⟩ = some (.int .i64 bud) := cell_of O0 rfl
  have x0 : W3.cell? ⟨w.heap.size + 1 + 1, 0, none⟩ = some (.int .i64 fr) := cell_of O2 rfl
  have x1 : W3.cell? ⟨w.heap.size + 1 + 1, 1, none⟩ = some (.int .i64 tt) := cell_of O2 rfl
  have x2 : W3.cell? ⟨w.heap.size + 1 + 1, 2, none⟩ = some (.int .i64 st) := cell_of O2 rfl
  have x3 : W3.cell? ⟨w.heap.size + 1 + 1, 3, none⟩ = some (.int .i64 va) := cell_of O2 rfl
  have x4 : W3.cell? ⟨w.heap.size + 1 + 1, 4, none⟩ = some (.int .i64 co) := cell_of O2 rfl
  have q0 : W3.cell? ⟨p, 0, none⟩ = some (.slice (some ⟨b, off, none⟩) n c) := cell_of P3 rfl
  have q1 : W3.cell? ⟨p, 1, none⟩ = some (.int .i64 gap) := cell_of P3 rfl
  skip
  clear O0 O1 O2 P3 p0 p1 c0 c1 c2 c3 c4
  refine region_calm (by kernel_rfl) (by kernel_rfl) ?_
  repeat (go_big_quiet_step ((fail)))
  refine wpQuiet_nil ?_; intro W4 hw'; have hb4 := below_of_ext hw'; clear hw'
  have y0 : W4.heap[w.heap.size]? = some (.cells #[.int .i64 z, .int .i64 K, .int .i64 bud] 55) := below_keeps hb4 HO.out.1 l0
  have y1 : W4.heap[w.heap.size + 1]? = some (.cells #[.int .i64 0, .int .i64 0, .int .i64 0] 55) := below_keeps hb4 HO.out.2.1 l1
  have y2 : W4.heap[w.heap.size + 1 + 1]? = some (.cells #[.int .i64 fr, .int .i64 tt, .int .i64 st, .int .i64 va, .int .i64 co] 39) := below_keeps hb4 HO.out.2.2 l2
  have m0 := lt_of_obj y0
  have m1 := lt_of_obj y1
  have m2 := lt_of_obj y2
  have B4 := Lib.hid (bl_step B3.out hb4)
  have u0 : W4.cell? ⟨w.heap.size, 0, none⟩ = some (.int .i64 z) := cell_of y0 rfl
  have u1 : W4.cell? ⟨w.heap.size, 1, none⟩ = some (.int .i64 K) := cell_of y0 rfl
  have u2 : W4.cell? ⟨w.heap.size, 2, none⟩ = some (.int .i64 bud) := cell_of y0 rfl
  have t4 : W4.cell? ⟨w.heap.size + 1 + 1, 4, none⟩ = some (.int .i64 co) := cell_of y2 rfl
  have s0 : W4.cell? ⟨w.heap.size + 1, 0, none⟩ = some (.int .i64 0) := cell_of y1 rfl
  have s1 : W4.cell? ⟨w.heap.size + 1, 1, none⟩ = some (.int .i64 0) := cell_of y1 rfl
  have s2 : W4.cell? ⟨w.heap.size + 1, 2, none⟩ = some (.int .i64 0) := cell_of y1 rfl
  have f0 := free_of (i := 0) y1
  have f1 := free_of (i := 1) y1
  have f2 := free_of (i := 2) y1
  have Y1 := Lib.hid y1
  clear y0 y1 y2 hb4 z0 z1 z2 x0 x1 x2 x3 x4 q0 q1 l0 l1 l2 hsz hpl3
  go_wp2_with (fail)
  exact nx_fin _ rfl rfl (hp_set (hp_set (hp_set Y1.out _) _) _) rfl ⟨rfl, bl_set (bl_set (bl_set B4.out (by omega) _) (by omega) _) (by omega) _⟩
set_option maxHeartbeats 3200000 in
theorem next_first (fr tt st va co gap z K bud : Int) (b off i n c mb p : Nat) (w : World) (hi : i < n) (hcap : n ≤ c) (hcap2 : c ≤ 2 ^ 63 - 1) (hbl : b < w.heap.size) (c0 : w.cell? ⟨b, off + i * 5, none⟩ = some (.int .i64 fr)) (c1 : w.cell? ⟨b, off + i * 5 + 1, none⟩ = some (.int .i64 tt)) (c2 : w.cell? ⟨b, off + i * 5 + 2, none⟩ = some (.int .i64 st)) (c3 : w.cell? ⟨b, off + i * 5 + 3, none⟩ = some (.int .i64 va)) (c4 : w.cell? ⟨b, off + i * 5 + 4, none⟩ = some (.int .i64 co)) (hp : PO w p (some ⟨b, off, none⟩) n c gap mb) (vco : 0 ≤ co ∧ co ≤ 1000) (vbud : 0 ≤ bud ∧ bud ≤ 1000) (vK : 0 ≤ K ∧ K ≤ 40) (hK : (K == 0) = false) (hco : co ≤ bud) (hz : z = -1) :
    Calls Try.prog 27 #[.pointer (some ⟨p, 0, none⟩), pt z K bud, .int .i64 i] w fun e w' => e = .returned (.tuple #[pt i (K - 1) (bud - co), .bool true]) ∧ Below w.heap.size w w' := by
  obtain ⟨v1, v2⟩ := vco
  obtain ⟨v3, v4⟩ := vbud
  obtain ⟨v5, v6⟩ := vK
  have HP := Lib.hid hp
  have p0 : w.cell? ⟨p, 0, none⟩ = some (.slice (some ⟨b, off, none⟩) n c) := cell_of hp rfl
  have p1 : w.cell? ⟨p, 1, none⟩ = some (.int .i64 gap) := cell_of hp rfl
  have hpl := lt_of_obj hp
  clear hp
  unfold PO at HP
  subst hz
  have hdb : decide (bud < co) = false := by simp; omega
  have W1 := IntWalk.i64_in (K - 1) (by omega)
  have W2 := IntWalk.i64_in (bud - co) (by omega)
  obtain ⟨W3, hW3⟩ : ∃ W3, W3 = ((w.alloc (.cells #[.int .i64 (-1), .int .i64 K, .int .i64 bud] 55)).alloc (.cells #[.int .i64 0, .int .i64 0, .int .i64 0] 55)).alloc (.cells #[.int .i64 fr, .int .i64 tt, .int .i64 st, .int .i64 va, .int .i64 co] 39) := ⟨_, rfl⟩
  have HW3 := Lib.hid hW3
  clear hW3
  go_enter Try.func27, Try.ntmps27
  go_wp2_with (fail)
  rw [← HW3.out]
  have B3 : Hid (Below w.heap.size w W3) := Lib.hid (by rw [HW3.out]; exact bl_alloc (bl_alloc (bl_alloc (Below.refl _ _) _) _) _)
  have O0 : W3.heap[w.heap.size]? = some (.cells #[.int .i64 (-1), .int .i64 K, .int .i64 bud] 55) := by rw [HW3.out]; exact hp_old (hp_old (hp_new w _) _) _
  have O1 : W3.heap[w.heap.size + 1]? = some (.cells #[.int .i64 0, .int .i64 0, .int .i64 0] 55) := by rw [HW3.out]; have := hp_old (hp_new (w.alloc (.cells #[.int .i64 (-1), .int .i64 K, .int .i64 bud] 55)) (.cells #[.int .i64 0, .int .i64 0, .int .i64 0] 55)) (.cells #[.int .i64 fr, .int .i64 tt, .int .i64 st, .int .i64 va, .int .i64 co] 39); rw [World.size_alloc] at this; exact this
  have O2 : W3.heap[w.heap.size + 1 + 1]? = some (.cells #[.int .i64 fr, .int .i64 tt, .int .i64 st, .int .i64 va, .int .i64 co] 39) := by rw [HW3.out]; have := hp_new ((w.alloc (.cells #[.int .i64 (-1), .int .i64 K, .int .i64 bud] 55)).alloc (.cells #[.int .i64 0, .int .i64 0, .int .i64 0] 55)) (.cells #[.int .i64 fr, .int .i64 tt, .int .i64 st, .int .i64 va, .int .i64 co] 39); rw [World.size_alloc, World.size_alloc] at this; exact this
  have P3 := below_keeps B3.out HP.out hpl
  have hsz := B3.out.size
  have l0 := lt_of_obj O0
  have l1 := lt_of_obj O1
  have l2 := lt_of_obj O2
  have hpl3 : p < W3.heap.size := by omega
  have HO := Lib.hid (And.intro O0 (And.intro O1 O2))
  have z0 : W3.cell? ⟨w.heap.size, 0, none⟩ = some (.int .i64 (-1)) := cell_of O0 rfl
  have z1 : W3.cell? ⟨w.heap.size, 1, none⟩ = some (.int .i64 K) := cell_of O0 rfl
  have z2 : W3.cell? ⟨w.heap.size, 2, none⟩ = some (.int .i64 bud) := cell_of O0 rfl
  have x0 : W3.cell? ⟨w.heap.size + 1 + 1, 0, none⟩ = some (.int .i64 fr) := cell_of O2 rfl
  have x1 : W3.cell? ⟨w.heap.size + 1 + 1, 1, none⟩ = some (.int .i64 tt) := cell_of O2 rfl
  have x2 : W3.cell? ⟨w.heap.size + 1 + 1, 2, none⟩ = some (.int .i64 st) := cell_of O2 rfl
  have x3 : W3.cell? ⟨w.heap.size + 1 + 1, 3, none⟩ = some (.int .i64 va) := cell_of O2 rfl
  have x4 : W3.cell? ⟨w.heap.size + 1 + 1, 4, none⟩ = some (.int .i64 co) := cell_of O2 rfl
  have q0 : W3.cell? ⟨p, 0, none⟩ = some (.slice (some ⟨b, off, none⟩) n c) := cell_of P3 rfl
  have q1 : W3.cell? ⟨p, 1, none⟩ = some (.int .i64 gap) := cell_of P3 rfl
  skip
  clear O0 O1 O2 P3 p0 p1 c0 c1 c2 c3 c4
  refine region_calm (by kernel_rfl) (by kernel_rfl) ?_
  repeat (go_big_quiet_step ((fail)))
  refine wpQuiet_nil ?_; intro W4 hw'; have hb4 := below_of_ext hw'; clear hw'
  have y0 : W4.heap[w.heap.size]? = some (.cells #[.int .i64 (-1), .int .i64 K, .int .i64 bud] 55) := below_keeps hb4 HO.out.1 l0
  have y1 : W4.heap[w.heap.size + 1]? = some (.cells #[.int .i64 0, .int .i64 0, .int .i64 0] 55) := below_keeps hb4 HO.out.2.1 l1
  have y2 : W4.heap[w.heap.size + 1 + 1]? = some (.cells #[.int .i64 fr, .int .i64 tt, .int .i64 st, .int .i64 va, .int .i64 co] 39) := below_keeps hb4 HO.out.2.2 l2
  have m0 := lt_of_obj y0
  have m1 := lt_of_obj y1
  have m2 := lt_of_obj y2
  have B4 := Lib.hid (bl_step B3.out hb4)
  have u0 : W4.cell? ⟨w.heap.size, 0, none⟩ = some (.int .i64 (-1)) := cell_of y0 rfl
  have u1 : W4.cell? ⟨w.heap.size, 1, none⟩ = some (.int .i64 K) := cell_of y0 rfl
  have u2 : W4.cell? ⟨w.heap.size, 2, none⟩ = some (.int .i64 bud) := cell_of y0 rfl
  have t4 : W4.cell? ⟨w.heap.size + 1 + 1, 4, none⟩ = some (.int .i64 co) := cell_of y2 rfl
  have s0 : W4.cell? ⟨w.heap.size + 1, 0, none⟩ = some (.int .i64 0) := cell_of y1 rfl
  have s1 : W4.cell? ⟨w.heap.size + 1, 1, none⟩ = some (.int .i64 0) := cell_of y1 rfl
  have s2 : W4.cell? ⟨w.heap.size + 1, 2, none⟩ = some (.int .i64 0) := cell_of y1 rfl
  have f0 := free_of (i := 0) y1
  have f1 := free_of (i := 1) y1
  have f2 := free_of (i := 2) y1
  have Y1 := Lib.hid y1
  clear y0 y1 y2 hb4 z0 z1 z2 x0 x1 x2 x3 x4 q0 q1 l0 l1 l2 hsz hpl3
  go_wp2_with (fail)
  exact nx_fin _ rfl rfl (hp_set (hp_set (hp_set Y1.out _) _) _) rfl ⟨rfl, bl_set (bl_set (bl_set B4.out (by omega) _) (by omega) _) (by omega) _⟩
set_option maxHeartbeats 3200000 in
theorem next_jt (fr tt st va co gap z K bud : Int) (b off i n c mb p : Nat) (w : World) (hi : i < n) (hcap : n ≤ c) (hcap2 : c ≤ 2 ^ 63 - 1) (hbl : b < w.heap.size) (c0 : w.cell? ⟨b, off + i * 5, none⟩ = some (.int .i64 fr)) (c1 : w.cell? ⟨b, off + i * 5 + 1, none⟩ = some (.int .i64 tt)) (c2 : w.cell? ⟨b, off + i * 5 + 2, none⟩ = some (.int .i64 st)) (c3 : w.cell? ⟨b, off + i * 5 + 3, none⟩ = some (.int .i64 va)) (c4 : w.cell? ⟨b, off + i * 5 + 4, none⟩ = some (.int .i64 co)) (hp : PO w p (some ⟨b, off, none⟩) n c gap mb) (vco : 0 ≤ co ∧ co ≤ 1000) (vbud : 0 ≤ bud ∧ bud ≤ 1000) (vK : 0 ≤ K ∧ K ≤ 40) (hK : (K == 0) = false) (hco : co ≤ bud) (j : Nat) (hz : z = j) (hj : j < n) (fr' tt' st' va' co' : Int) (d0 : w.cell? ⟨b, off + j * 5, none⟩ = some (.int .i64 fr')) (d1 : w.cell? ⟨b, off + j * 5 + 1, none⟩ = some (.int .i64 tt')) (d2 : w.cell? ⟨b, off + j * 5 + 2, none⟩ = some (.int .i64 st')) (d3 : w.cell? ⟨b, off + j * 5 + 3, none⟩ = some (.int .i64 va')) (d4 : w.cell? ⟨b, off + j * 5 + 4, none⟩ = some (.int .i64 co')) (hto : 0 ≤ tt' ∧ tt' ≤ 1099511627776) (hg : 0 ≤ gap ∧ gap ≤ 1099511627776) (hT : fol ⟨fr', tt', st', va', co'⟩ ⟨fr, tt, st, va, co⟩ gap = true) :
    Calls Try.prog 27 #[.pointer (some ⟨p, 0, none⟩), pt z K bud, .int .i64 i] w fun e w' => e = .returned (.tuple #[pt i (K - 1) (bud - co), .bool true]) ∧ Below w.heap.size w w' := by
  obtain ⟨v1, v2⟩ := vco
  obtain ⟨v3, v4⟩ := vbud
  obtain ⟨v5, v6⟩ := vK
  have HP := Lib.hid hp
  have p0 : w.cell? ⟨p, 0, none⟩ = some (.slice (some ⟨b, off, none⟩) n c) := cell_of hp rfl
  have p1 : w.cell? ⟨p, 1, none⟩ = some (.int .i64 gap) := cell_of hp rfl
  have hpl := lt_of_obj hp
  clear hp
  unfold PO at HP
  have FO := Lib.hid (fun W => follows_any ⟨fr', tt', st', va', co'⟩ ⟨fr, tt, st, va, co⟩ gap W hto hg)
  rw [hT] at FO
  clear hT hto hg
  subst hz
  have hdb : decide (bud < co) = false := by simp; omega
  have hdj : decide ((0 : Int) ≤ (j : Int)) = true := by simp
  have W1 := IntWalk.i64_in (K - 1) (by omega)
  have W2 := IntWalk.i64_in (bud - co) (by omega)
  obtain ⟨W3, hW3⟩ : ∃ W3, W3 = ((w.alloc (.cells #[.int .i64 (j : Int), .int .i64 K, .int .i64 bud] 55)).alloc (.cells #[.int .i64 0, .int .i64 0, .int .i64 0] 55)).alloc (.cells #[.int .i64 fr, .int .i64 tt, .int .i64 st, .int .i64 va, .int .i64 co] 39) := ⟨_, rfl⟩
  have HW3 := Lib.hid hW3
  clear hW3
  go_enter Try.func27, Try.ntmps27
  go_wp2_with (fail)
  rw [← HW3.out]
  have B3 : Hid (Below w.heap.size w W3) := Lib.hid (by rw [HW3.out]; exact bl_alloc (bl_alloc (bl_alloc (Below.refl _ _) _) _) _)
  have O0 : W3.heap[w.heap.size]? = some (.cells #[.int .i64 (j : Int), .int .i64 K, .int .i64 bud] 55) := by rw [HW3.out]; exact hp_old (hp_old (hp_new w _) _) _
  have O1 : W3.heap[w.heap.size + 1]? = some (.cells #[.int .i64 0, .int .i64 0, .int .i64 0] 55) := by rw [HW3.out]; have := hp_old (hp_new (w.alloc (.cells #[.int .i64 (j : Int), .int .i64 K, .int .i64 bud] 55)) (.cells #[.int .i64 0, .int .i64 0, .int .i64 0] 55)) (.cells #[.int .i64 fr, .int .i64 tt, .int .i64 st, .int .i64 va, .int .i64 co] 39); rw [World.size_alloc] at this; exact this
  have O2 : W3.heap[w.heap.size + 1 + 1]? = some (.cells #[.int .i64 fr, .int .i64 tt, .int .i64 st, .int .i64 va, .int .i64 co] 39) := by rw [HW3.out]; have := hp_new ((w.alloc (.cells #[.int .i64 (j : Int), .int .i64 K, .int .i64 bud] 55)).alloc (.cells #[.int .i64 0, .int .i64 0, .int .i64 0] 55)) (.cells #[.int .i64 fr, .int .i64 tt, .int .i64 st, .int .i64 va, .int .i64 co] 39); rw [World.size_alloc, World.size_alloc] at this; exact this
  have P3 := below_keeps B3.out HP.out hpl
  have hsz := B3.out.size
  have l0 := lt_of_obj O0
  have l1 := lt_of_obj O1
  have l2 := lt_of_obj O2
  have hpl3 : p < W3.heap.size := by omega
  have HO := Lib.hid (And.intro O0 (And.intro O1 O2))
  have z0 : W3.cell? ⟨w.heap.size, 0, none⟩ = some (.int .i64 (j : Int)) := cell_of O0 rfl
  have z1 : W3.cell? ⟨w.heap.size, 1, none⟩ = some (.int .i64 K) := cell_of O0 rfl
  have z2 : W3.cell? ⟨w.heap.size, 2, none⟩ = some (.int .i64 bud) := cell_of O0 rfl
  have x0 : W3.cell? ⟨w.heap.size + 1 + 1, 0, none⟩ = some (.int .i64 fr) := cell_of O2 rfl
  have x1 : W3.cell? ⟨w.heap.size + 1 + 1, 1, none⟩ = some (.int .i64 tt) := cell_of O2 rfl
  have x2 : W3.cell? ⟨w.heap.size + 1 + 1, 2, none⟩ = some (.int .i64 st) := cell_of O2 rfl
  have x3 : W3.cell? ⟨w.heap.size + 1 + 1, 3, none⟩ = some (.int .i64 va) := cell_of O2 rfl
  have x4 : W3.cell? ⟨w.heap.size + 1 + 1, 4, none⟩ = some (.int .i64 co) := cell_of O2 rfl
  have q0 : W3.cell? ⟨p, 0, none⟩ = some (.slice (some ⟨b, off, none⟩) n c) := cell_of P3 rfl
  have q1 : W3.cell? ⟨p, 1, none⟩ = some (.int .i64 gap) := cell_of P3 rfl
  have d0' : W3.cell? ⟨b, off + j * 5, none⟩ = some (.int .i64 fr') := (B3.out.cell (p := ⟨b, off + j * 5, none⟩) hbl).trans d0
  have d1' : W3.cell? ⟨b, off + j * 5 + 1, none⟩ = some (.int .i64 tt') := (B3.out.cell (p := ⟨b, off + j * 5 + 1, none⟩) hbl).trans d1
  have d2' : W3.cell? ⟨b, off + j * 5 + 2, none⟩ = some (.int .i64 st') := (B3.out.cell (p := ⟨b, off + j * 5 + 2, none⟩) hbl).trans d2
  have d3' : W3.cell? ⟨b, off + j * 5 + 3, none⟩ = some (.int .i64 va') := (B3.out.cell (p := ⟨b, off + j * 5 + 3, none⟩) hbl).trans d3
  have d4' : W3.cell? ⟨b, off + j * 5 + 4, none⟩ = some (.int .i64 co') := (B3.out.cell (p := ⟨b, off + j * 5 + 4, none⟩) hbl).trans d4
  have hbl3 : b < W3.heap.size := by omega
  clear O0 O1 O2 P3 p0 p1 c0 c1 c2 c3 c4
  refine region_calm (by kernel_rfl) (by kernel_rfl) ?_
  repeat (go_big_quiet_step ((go_at_call 31; exact calm_of (FO.out _))))
  refine wpQuiet_nil ?_; intro W4 hw'; have hb4 := below_of_ext hw'; clear hw'
  have y0 : W4.heap[w.heap.size]? = some (.cells #[.int .i64 (j : Int), .int .i64 K, .int .i64 bud] 55) := below_keeps hb4 HO.out.1 l0
  have y1 : W4.heap[w.heap.size + 1]? = some (.cells #[.int .i64 0, .int .i64 0, .int .i64 0] 55) := below_keeps hb4 HO.out.2.1 l1
  have y2 : W4.heap[w.heap.size + 1 + 1]? = some (.cells #[.int .i64 fr, .int .i64 tt, .int .i64 st, .int .i64 va, .int .i64 co] 39) := below_keeps hb4 HO.out.2.2 l2
  have m0 := lt_of_obj y0
  have m1 := lt_of_obj y1
  have m2 := lt_of_obj y2
  have B4 := Lib.hid (bl_step B3.out hb4)
  have u0 : W4.cell? ⟨w.heap.size, 0, none⟩ = some (.int .i64 (j : Int)) := cell_of y0 rfl
  have u1 : W4.cell? ⟨w.heap.size, 1, none⟩ = some (.int .i64 K) := cell_of y0 rfl
  have u2 : W4.cell? ⟨w.heap.size, 2, none⟩ = some (.int .i64 bud) := cell_of y0 rfl
  have t4 : W4.cell? ⟨w.heap.size + 1 + 1, 4, none⟩ = some (.int .i64 co) := cell_of y2 rfl
  have s0 : W4.cell? ⟨w.heap.size + 1, 0, none⟩ = some (.int .i64 0) := cell_of y1 rfl
  have s1 : W4.cell? ⟨w.heap.size + 1, 1, none⟩ = some (.int .i64 0) := cell_of y1 rfl
  have s2 : W4.cell? ⟨w.heap.size + 1, 2, none⟩ = some (.int .i64 0) := cell_of y1 rfl
  have f0 := free_of (i := 0) y1
  have f1 := free_of (i := 1) y1
  have f2 := free_of (i := 2) y1
  have Y1 := Lib.hid y1
  clear y0 y1 y2 hb4 z0 z1 z2 x0 x1 x2 x3 x4 q0 q1 l0 l1 l2 hsz hpl3
  go_wp2_with (fail)
  exact nx_fin _ rfl rfl (hp_set (hp_set (hp_set Y1.out _) _) _) rfl ⟨rfl, bl_set (bl_set (bl_set B4.out (by omega) _) (by omega) _) (by omega) _⟩
set_option maxHeartbeats 3200000 in
theorem next_jf (fr tt st va co gap z K bud : Int) (b off i n c mb p : Nat) (w : World) (hi : i < n) (hcap : n ≤ c) (hcap2 : c ≤ 2 ^ 63 - 1) (hbl : b < w.heap.size) (c0 : w.cell? ⟨b, off + i * 5, none⟩ = some (.int .i64 fr)) (c1 : w.cell? ⟨b, off + i * 5 + 1, none⟩ = some (.int .i64 tt)) (c2 : w.cell? ⟨b, off + i * 5 + 2, none⟩ = some (.int .i64 st)) (c3 : w.cell? ⟨b, off + i * 5 + 3, none⟩ = some (.int .i64 va)) (c4 : w.cell? ⟨b, off + i * 5 + 4, none⟩ = some (.int .i64 co)) (hp : PO w p (some ⟨b, off, none⟩) n c gap mb) (vco : 0 ≤ co ∧ co ≤ 1000) (vbud : 0 ≤ bud ∧ bud ≤ 1000) (vK : 0 ≤ K ∧ K ≤ 40) (hK : (K == 0) = false) (hco : co ≤ bud) (j : Nat) (hz : z = j) (hj : j < n) (fr' tt' st' va' co' : Int) (d0 : w.cell? ⟨b, off + j * 5, none⟩ = some (.int .i64 fr')) (d1 : w.cell? ⟨b, off + j * 5 + 1, none⟩ = some (.int .i64 tt')) (d2 : w.cell? ⟨b, off + j * 5 + 2, none⟩ = some (.int .i64 st')) (d3 : w.cell? ⟨b, off + j * 5 + 3, none⟩ = some (.int .i64 va')) (d4 : w.cell? ⟨b, off + j * 5 + 4, none⟩ = some (.int .i64 co')) (hto : 0 ≤ tt' ∧ tt' ≤ 1099511627776) (hg : 0 ≤ gap ∧ gap ≤ 1099511627776) (hT : fol ⟨fr', tt', st', va', co'⟩ ⟨fr, tt, st, va, co⟩ gap = false) :
    Calls Try.prog 27 #[.pointer (some ⟨p, 0, none⟩), pt z K bud, .int .i64 i] w fun e w' => e = .returned (.tuple #[pt z K bud, .bool false]) ∧ Below w.heap.size w w' := by
  obtain ⟨v1, v2⟩ := vco
  obtain ⟨v3, v4⟩ := vbud
  obtain ⟨v5, v6⟩ := vK
  have HP := Lib.hid hp
  have p0 : w.cell? ⟨p, 0, none⟩ = some (.slice (some ⟨b, off, none⟩) n c) := cell_of hp rfl
  have p1 : w.cell? ⟨p, 1, none⟩ = some (.int .i64 gap) := cell_of hp rfl
  have hpl := lt_of_obj hp
  clear hp
  unfold PO at HP
  have FO := Lib.hid (fun W => follows_any ⟨fr', tt', st', va', co'⟩ ⟨fr, tt, st, va, co⟩ gap W hto hg)
  rw [hT] at FO
  clear hT hto hg
  subst hz
  have hdb : decide (bud < co) = false := by simp; omega
  have hdj : decide ((0 : Int) ≤ (j : Int)) = true := by simp
  obtain ⟨W3, hW3⟩ : ∃ W3, W3 = ((w.alloc (.cells #[.int .i64 (j : Int), .int .i64 K, .int .i64 bud] 55)).alloc (.cells #[.int .i64 0, .int .i64 0, .int .i64 0] 55)).alloc (.cells #[.int .i64 fr, .int .i64 tt, .int .i64 st, .int .i64 va, .int .i64 co] 39) := ⟨_, rfl⟩
  have HW3 := Lib.hid hW3
  clear hW3
  go_enter Try.func27, Try.ntmps27
  go_wp2_with (fail)
  rw [← HW3.out]
  have B3 : Hid (Below w.heap.size w W3) := Lib.hid (by rw [HW3.out]; exact bl_alloc (bl_alloc (bl_alloc (Below.refl _ _) _) _) _)
  have O0 : W3.heap[w.heap.size]? = some (.cells #[.int .i64 (j : Int), .int .i64 K, .int .i64 bud] 55) := by rw [HW3.out]; exact hp_old (hp_old (hp_new w _) _) _
  have O1 : W3.heap[w.heap.size + 1]? = some (.cells #[.int .i64 0, .int .i64 0, .int .i64 0] 55) := by rw [HW3.out]; have := hp_old (hp_new (w.alloc (.cells #[.int .i64 (j : Int), .int .i64 K, .int .i64 bud] 55)) (.cells #[.int .i64 0, .int .i64 0, .int .i64 0] 55)) (.cells #[.int .i64 fr, .int .i64 tt, .int .i64 st, .int .i64 va, .int .i64 co] 39); rw [World.size_alloc] at this; exact this
  have O2 : W3.heap[w.heap.size + 1 + 1]? = some (.cells #[.int .i64 fr, .int .i64 tt, .int .i64 st, .int .i64 va, .int .i64 co] 39) := by rw [HW3.out]; have := hp_new ((w.alloc (.cells #[.int .i64 (j : Int), .int .i64 K, .int .i64 bud] 55)).alloc (.cells #[.int .i64 0, .int .i64 0, .int .i64 0] 55)) (.cells #[.int .i64 fr, .int .i64 tt, .int .i64 st, .int .i64 va, .int .i64 co] 39); rw [World.size_alloc, World.size_alloc] at this; exact this
  have P3 := below_keeps B3.out HP.out hpl
  have hsz := B3.out.size
  have l0 := lt_of_obj O0
  have l1 := lt_of_obj O1
  have l2 := lt_of_obj O2
  have hpl3 : p < W3.heap.size := by omega
  have HO := Lib.hid (And.intro O0 (And.intro O1 O2))
  have z0 : W3.cell? ⟨w.heap.size, 0, none⟩ = some (.int .i64 (j : Int)) := cell_of O0 rfl
  have z1 : W3.cell? ⟨w.heap.size, 1, none⟩ = some (.int .i64 K) := cell_of O0 rfl
  have z2 : W3.cell? ⟨w.heap.size, 2, none⟩ = some (.int .i64 bud) := cell_of O0 rfl
  have x0 : W3.cell? ⟨w.heap.size + 1 + 1, 0, none⟩ = some (.int .i64 fr) := cell_of O2 rfl
  have x1 : W3.cell? ⟨w.heap.size + 1 + 1, 1, none⟩ = some (.int .i64 tt) := cell_of O2 rfl
  have x2 : W3.cell? ⟨w.heap.size + 1 + 1, 2, none⟩ = some (.int .i64 st) := cell_of O2 rfl
  have x3 : W3.cell? ⟨w.heap.size + 1 + 1, 3, none⟩ = some (.int .i64 va) := cell_of O2 rfl
  have x4 : W3.cell? ⟨w.heap.size + 1 + 1, 4, none⟩ = some (.int .i64 co) := cell_of O2 rfl
  have q0 : W3.cell? ⟨p, 0, none⟩ = some (.slice (some ⟨b, off, none⟩) n c) := cell_of P3 rfl
  have q1 : W3.cell? ⟨p, 1, none⟩ = some (.int .i64 gap) := cell_of P3 rfl
  have d0' : W3.cell? ⟨b, off + j * 5, none⟩ = some (.int .i64 fr') := (B3.out.cell (p := ⟨b, off + j * 5, none⟩) hbl).trans d0
  have d1' : W3.cell? ⟨b, off + j * 5 + 1, none⟩ = some (.int .i64 tt') := (B3.out.cell (p := ⟨b, off + j * 5 + 1, none⟩) hbl).trans d1
  have d2' : W3.cell? ⟨b, off + j * 5 + 2, none⟩ = some (.int .i64 st') := (B3.out.cell (p := ⟨b, off + j * 5 + 2, none⟩) hbl).trans d2
  have d3' : W3.cell? ⟨b, off + j * 5 + 3, none⟩ = some (.int .i64 va') := (B3.out.cell (p := ⟨b, off + j * 5 + 3, none⟩) hbl).trans d3
  have d4' : W3.cell? ⟨b, off + j * 5 + 4, none⟩ = some (.int .i64 co') := (B3.out.cell (p := ⟨b, off + j * 5 + 4, none⟩) hbl).trans d4
  have hbl3 : b < W3.heap.size := by omega
  clear O0 O1 O2 P3 p0 p1 c0 c1 c2 c3 c4
  refine region_calm (by kernel_rfl) (by kernel_rfl) ?_
  repeat (go_big_quiet_step ((go_at_call 31; exact calm_of (FO.out _))))
  refine wpQuiet_nil ?_; intro W4 hw'; have hb4 := below_of_ext hw'; clear hw'
  have y0 : W4.heap[w.heap.size]? = some (.cells #[.int .i64 (j : Int), .int .i64 K, .int .i64 bud] 55) := below_keeps hb4 HO.out.1 l0
  have y1 : W4.heap[w.heap.size + 1]? = some (.cells #[.int .i64 0, .int .i64 0, .int .i64 0] 55) := below_keeps hb4 HO.out.2.1 l1
  have y2 : W4.heap[w.heap.size + 1 + 1]? = some (.cells #[.int .i64 fr, .int .i64 tt, .int .i64 st, .int .i64 va, .int .i64 co] 39) := below_keeps hb4 HO.out.2.2 l2
  have m0 := lt_of_obj y0
  have m1 := lt_of_obj y1
  have m2 := lt_of_obj y2
  have B4 := Lib.hid (bl_step B3.out hb4)
  have u0 : W4.cell? ⟨w.heap.size, 0, none⟩ = some (.int .i64 (j : Int)) := cell_of y0 rfl
  have u1 : W4.cell? ⟨w.heap.size, 1, none⟩ = some (.int .i64 K) := cell_of y0 rfl
  have u2 : W4.cell? ⟨w.heap.size, 2, none⟩ = some (.int .i64 bud) := cell_of y0 rfl
  have t4 : W4.cell? ⟨w.heap.size + 1 + 1, 4, none⟩ = some (.int .i64 co) := cell_of y2 rfl
  have s0 : W4.cell? ⟨w.heap.size + 1, 0, none⟩ = some (.int .i64 0) := cell_of y1 rfl
  have s1 : W4.cell? ⟨w.heap.size + 1, 1, none⟩ = some (.int .i64 0) := cell_of y1 rfl
  have s2 : W4.cell? ⟨w.heap.size + 1, 2, none⟩ = some (.int .i64 0) := cell_of y1 rfl
  have f0 := free_of (i := 0) y1
  have f1 := free_of (i := 1) y1
  have f2 := free_of (i := 2) y1
  have Y1 := Lib.hid y1
  clear y0 y1 y2 hb4 z0 z1 z2 x0 x1 x2 x3 x4 q0 q1 l0 l1 l2 hsz hpl3
  go_wp2_with (fail)
  exact nx_fin _ rfl rfl (hp_set (hp_set (hp_set Y1.out _) _) _) rfl ⟨rfl, bl_set (bl_set (bl_set B4.out (by omega) _) (by omega) _) (by omega) _⟩
end Go.Proofs.Ytacdigofjlbimaa
