/-
  The walk of the laws' own shown. Conditions: none.
-/
import Derived.Test.YtfjhlgmdkkdooaaTick
namespace Go.Proofs.Ytfjhlgmdkkdooaa
open Go.RowKit Kit
set_option linter.unusedVariables false
set_option linter.unusedSimpArgs false
theorem qv_level : qv [1073741824, 0, 0, 0] = true := by
  unfold qv; simp [sq]
theorem lv_in : ∀ x ∈ [(1073741824 : Int), 0, 0, 0], -9223372036854775808 ≤ x ∧ x ≤ 9223372036854775807 := by simp
theorem ze_in : ∀ x ∈ [(0 : Int), 0, 0, 0], -9223372036854775808 ≤ x ∧ x ≤ 9223372036854775807 := by simp
theorem g_good : goodB 50 40 false = true := by simp [goodB]
theorem g_bad : goodB 30 40 false = false := by simp [goodB]
theorem ask_s2 (f : Nat) (w : World) (h : w.heap[f]? = some (MC 0 0 0 0 0)) : Calls Try.prog 10 #[.pointer (some ⟨f, 0, none⟩), .int .i64 2, .agg #[.int .i64 1073741824, .int .i64 0, .int .i64 0, .int .i64 0], .agg #[.int .i64 50, .int .i64 40, .bool false]] w fun e w' => e = .returned (.int .i64 360) ∧ w'.heap[f]? = some (MC 0 0 0 0 0) ∧ Mod (fun k => k = f) w w' :=
  (ask_any f 0 0 0 0 0 2 1073741824 0 0 0 50 40 false w h lv_in).mono fun e w' hh => by
    have he : askErr 0 2 1073741824 0 0 0 50 40 false = 360 := by simp [askErr, g_good, g_bad, qv_level]
    obtain ⟨h1, h2, h3⟩ := hh
    unfold askObj at h2
    rw [he] at h1 h2
    simp at h2
    exact ⟨h1, h2, h3⟩
theorem ask_s3 (f : Nat) (w : World) (h : w.heap[f]? = some (MC 0 0 0 0 0)) : Calls Try.prog 10 #[.pointer (some ⟨f, 0, none⟩), .int .i64 1, .agg #[.int .i64 0, .int .i64 0, .int .i64 0, .int .i64 0], .agg #[.int .i64 30, .int .i64 40, .bool false]] w fun e w' => e = .returned (.int .i64 360) ∧ w'.heap[f]? = some (MC 0 0 0 0 0) ∧ Mod (fun k => k = f) w w' :=
  (ask_any f 0 0 0 0 0 1 0 0 0 0 30 40 false w h ze_in).mono fun e w' hh => by
    have he : askErr 0 1 0 0 0 0 30 40 false = 360 := by simp [askErr, g_good, g_bad, qv_level]
    obtain ⟨h1, h2, h3⟩ := hh
    unfold askObj at h2
    rw [he] at h1 h2
    simp at h2
    exact ⟨h1, h2, h3⟩
theorem ask_s4 (f : Nat) (w : World) (h : w.heap[f]? = some (MC 0 0 0 0 0)) : Calls Try.prog 10 #[.pointer (some ⟨f, 0, none⟩), .int .i64 1, .agg #[.int .i64 0, .int .i64 0, .int .i64 0, .int .i64 0], .agg #[.int .i64 50, .int .i64 40, .bool false]] w fun e w' => e = .returned (.int .i64 0) ∧ w'.heap[f]? = some (MC 1 0 0 0 0) ∧ Mod (fun k => k = f) w w' :=
  (ask_any f 0 0 0 0 0 1 0 0 0 0 50 40 false w h ze_in).mono fun e w' hh => by
    have he : askErr 0 1 0 0 0 0 50 40 false = 0 := by simp [askErr, g_good, g_bad, qv_level]
    obtain ⟨h1, h2, h3⟩ := hh
    unfold askObj at h2
    rw [he] at h1 h2
    simp at h2
    exact ⟨h1, h2, h3⟩
theorem ask_s5 (f : Nat) (w : World) (h : w.heap[f]? = some (MC 1 0 0 0 0)) : Calls Try.prog 10 #[.pointer (some ⟨f, 0, none⟩), .int .i64 2, .agg #[.int .i64 1073741824, .int .i64 0, .int .i64 0, .int .i64 0], .agg #[.int .i64 50, .int .i64 40, .bool false]] w fun e w' => e = .returned (.int .i64 0) ∧ w'.heap[f]? = some (MC 2 1073741824 0 0 0) ∧ Mod (fun k => k = f) w w' :=
  (ask_any f 1 0 0 0 0 2 1073741824 0 0 0 50 40 false w h lv_in).mono fun e w' hh => by
    have he : askErr 1 2 1073741824 0 0 0 50 40 false = 0 := by simp [askErr, g_good, g_bad, qv_level]
    obtain ⟨h1, h2, h3⟩ := hh
    unfold askObj at h2
    rw [he] at h1 h2
    simp at h2
    exact ⟨h1, h2, h3⟩
theorem ask_s6 (f : Nat) (w : World) (h : w.heap[f]? = some (MC 2 1073741824 0 0 0)) : Calls Try.prog 10 #[.pointer (some ⟨f, 0, none⟩), .int .i64 7, .agg #[.int .i64 1073741824, .int .i64 0, .int .i64 0, .int .i64 0], .agg #[.int .i64 50, .int .i64 40, .bool false]] w fun e w' => e = .returned (.int .i64 2) ∧ w'.heap[f]? = some (MC 2 1073741824 0 0 0) ∧ Mod (fun k => k = f) w w' :=
  (ask_any f 2 1073741824 0 0 0 7 1073741824 0 0 0 50 40 false w h lv_in).mono fun e w' hh => by
    have he : askErr 2 7 1073741824 0 0 0 50 40 false = 2 := by simp [askErr, g_good, g_bad, qv_level]
    obtain ⟨h1, h2, h3⟩ := hh
    unfold askObj at h2
    rw [he] at h1 h2
    simp at h2
    exact ⟨h1, h2, h3⟩
theorem tick_s1 (f : Nat) (w : World) (h : w.heap[f]? = some (MC 2 1073741824 0 0 0)) : Calls Try.prog 12 #[.pointer (some ⟨f, 0, none⟩), .agg #[.int .i64 50, .int .i64 40, .bool false]] w fun e w' => e = .returned (.tuple #[.int .i64 2, .agg #[.int .i64 1073741824, .int .i64 0, .int .i64 0, .int .i64 0]]) ∧ w'.heap[f]? = some (MC 2 1073741824 0 0 0) ∧ Mod (fun k => k = f) w w' :=
  (tick_any f 2 1073741824 0 0 0 50 40 false w (by simp) h).mono fun e w' hh => by
    have he : tkm 2 50 40 false = 2 := by simp [tkm, g_good]
    unfold TickR at hh
    rw [he] at hh
    exact hh
theorem tick_s2 (f : Nat) (w : World) (h : w.heap[f]? = some (MC 2 1073741824 0 0 0)) : Calls Try.prog 12 #[.pointer (some ⟨f, 0, none⟩), .agg #[.int .i64 30, .int .i64 40, .bool false]] w fun e w' => e = .returned (.tuple #[.int .i64 0, .agg #[.int .i64 0, .int .i64 0, .int .i64 0, .int .i64 0]]) ∧ w'.heap[f]? = some (MC 0 1073741824 0 0 0) ∧ Mod (fun k => k = f) w w' :=
  (tick_any f 2 1073741824 0 0 0 30 40 false w (by simp) h).mono fun e w' hh => by
    have he : tkm 2 30 40 false = 0 := by simp [tkm, g_bad]
    unfold TickR at hh
    rw [he] at hh
    exact hh
/-- The object's block and the two poses. -/
structure SH (f : Nat) (w W : World) : Prop where
  good : W.heap[f + 1]? = some (.cells #[.int .i64 50, .int .i64 40, .bool false] 32)
  bad : W.heap[f + 1 + 1]? = some (.cells #[.int .i64 30, .int .i64 40, .bool false] 32)
  below : Below f w W
  base : w.heap.size = f
theorem SH.lt {f : Nat} {w W : World} (h : SH f w W) : f + 1 + 1 < W.heap.size := lt_of_obj h.bad
theorem SH.mod {f : Nat} {w W W' : World} (h : SH f w W) (m : Mod (fun k => k = f) W W') : SH f w W' :=
  ⟨m.keeps h.good (by omega), m.keeps h.bad (by omega), h.below.trans (m.below (Nat.le_of_lt (Nat.lt_of_le_of_lt (by omega) h.lt)) (fun k hk => by omega)), h.base⟩
theorem SH.bl {f : Nat} {w W W' : World} (h : SH f w W) (m : Below W.heap.size W W') : SH f w W' :=
  ⟨below_keeps m h.good (lt_of_obj h.good), below_keeps m h.bad h.lt, h.below.trans (m.mono (by have := h.lt; omega)), h.base⟩
def SC (f : Nat) (w' : World) : Prop := w'.cell? ⟨f + 1, 0, none⟩ = some (.int .i64 50) ∧ w'.cell? ⟨f + 1, 1, none⟩ = some (.int .i64 40) ∧ w'.cell? ⟨f + 1, 2, none⟩ = some (.bool false) ∧ w'.cell? ⟨f + 1 + 1, 0, none⟩ = some (.int .i64 30) ∧ w'.cell? ⟨f + 1 + 1, 1, none⟩ = some (.int .i64 40) ∧ w'.cell? ⟨f + 1 + 1, 2, none⟩ = some (.bool false)
theorem SH.cells {f : Nat} {w W : World} (h : SH f w W) : SC f W :=
  ⟨cell_of (i := 0) h.good rfl, cell_of (i := 1) h.good rfl, cell_of (i := 2) h.good rfl, cell_of (i := 0) h.bad rfl, cell_of (i := 1) h.bad rfl, cell_of (i := 2) h.bad rfl⟩
theorem Try.info2' : Try.prog.info? 2 = some (Try.prog.types.getD 2 default) := by kernel_rfl
theorem Try.cells2 : Try.prog.cellsOf 2 = 1 := by kernel_rfl
@[go_sem] theorem eq28 (d : Nat) (xs ys : Array Value) (w : World) : (Op.equalIn (d + 1) 28 (.agg xs) (.agg ys)).run Try.prog w = (Op.eqItems d 2 1 xs ys [0, 1, 2, 3]).run Try.prog w := by
  have := run_equalIn_array (P := Try.prog) (w := w) d xs ys Try.underlying28 Try.info2'
  rw [Try.cells2] at this
  exact this
attribute [go_sem] Op.eqItems
theorem ptr_ne (w : World) (a : Addr) : (binOp .eql 24 (.pointer (some a)) (.pointer none)).run Try.prog w = .ok (.bool false) w := by
  have := run_equal_pointer_nil (P := Try.prog) (w := w) 24 (some a) (by kernel_rfl)
  simp [binOp, this]
set_option maxRecDepth 100000 in
set_option maxHeartbeats 3200000 in
theorem shown_any (w : World) : Calls Try.prog 8 #[] w fun e w' => e = .returned (.bool true) ∧ Below w.heap.size w w' := by
  go_enter Try.func8, Try.ntmps8
  go_wp2_with (fail)
  refine (new_any w).mono ?_
  rintro e _ ⟨rfl, rfl⟩
  go_wp2_with (fail)
  obtain ⟨W, hW⟩ : ∃ W, W = ((w.alloc (.cells #[.bool true, .int .i64 0, .int .i64 0, .int .i64 0, .int .i64 0, .int .i64 0] 43)).alloc (.cells #[.int .i64 50, .int .i64 40, .bool false] 32)).alloc (.cells #[.int .i64 30, .int .i64 40, .bool false] 32) := ⟨_, rfl⟩
  rw [← hW]
  have HO : Hid (W.heap[w.heap.size]? = some (MC 0 0 0 0 0)) := Lib.hid (by rw [hW]; exact hp_old (hp_old (hp_new w _) _) _)
  have HS : Hid (SH w.heap.size w W) := Lib.hid (by
    rw [hW]
    exact ⟨hp_old (by simpa using hp_new (w.alloc _) _) _, by simpa using hp_new ((w.alloc _).alloc _) _, bl_alloc (bl_alloc (bl_alloc (Below.refl _ _) _) _) _, rfl⟩)
  clear hW
  obtain ⟨q0, q1, q2, q3, q4, q5⟩ := HS.out.cells
  have hl := HS.out.lt
  have np := ptr_ne
  have ho := HO.out
  have hs := HS.out
  have HO := Lib.hid (show W.drew.heap[w.heap.size]? = some (MC 0 0 0 0 0) from ho)
  have HS := Lib.hid (show SH w.heap.size w W.drew from ⟨hs.good, hs.bad, hs.below.drew, rfl⟩)
  clear ho hs
  go_region_held3 (fun w' => w'.cell? ⟨w.heap.size + 1, 0, none⟩ = some (.int .i64 50) ∧ w'.cell? ⟨w.heap.size + 1, 1, none⟩ = some (.int .i64 40) ∧ w'.cell? ⟨w.heap.size + 1, 2, none⟩ = some (.bool false) ∧ w'.cell? ⟨w.heap.size + 1 + 1, 0, none⟩ = some (.int .i64 30) ∧ w'.cell? ⟨w.heap.size + 1 + 1, 1, none⟩ = some (.int .i64 40) ∧ w'.cell? ⟨w.heap.size + 1 + 1, 2, none⟩ = some (.bool false)) (go_keep)
    ((first | (go_at_call 14; refine (mode_any _ 0 0 0 0 0 _ HO.out).mono ?_; rintro e _ ⟨rfl, rfl⟩) | (go_at_call 17; refine (level_any _).mono ?_; rintro e W2 ⟨rfl, hm⟩; have ho := below_keeps hm HO.out (lt_of_obj HO.out); have hs := HS.out.bl hm; obtain ⟨q0, q1, q2, q3, q4, q5⟩ := hs.cells; have hl := hs.lt; replace HO := Lib.hid ho; replace HS := Lib.hid hs; clear ho hm hs) | (go_at_call 10; (with_reducible (refine (ask_s2 _ _ HO.out).mono ?_)); rintro e W2 ⟨rfl, ho, hm⟩; have hs := HS.out.mod hm; obtain ⟨q0, q1, q2, q3, q4, q5⟩ := hs.cells; have hl := hs.lt; replace HO := Lib.hid ho; replace HS := Lib.hid hs; clear ho hm hs) | (go_at_call 10; (with_reducible (refine (ask_s3 _ _ HO.out).mono ?_)); rintro e W2 ⟨rfl, ho, hm⟩; have hs := HS.out.mod hm; obtain ⟨q0, q1, q2, q3, q4, q5⟩ := hs.cells; have hl := hs.lt; replace HO := Lib.hid ho; replace HS := Lib.hid hs; clear ho hm hs) | (go_at_call 10; (with_reducible (refine (ask_s4 _ _ HO.out).mono ?_)); rintro e W2 ⟨rfl, ho, hm⟩; have hs := HS.out.mod hm; obtain ⟨q0, q1, q2, q3, q4, q5⟩ := hs.cells; have hl := hs.lt; replace HO := Lib.hid ho; replace HS := Lib.hid hs; clear ho hm hs) | (go_at_call 10; (with_reducible (refine (ask_s5 _ _ HO.out).mono ?_)); rintro e W2 ⟨rfl, ho, hm⟩; have hs := HS.out.mod hm; obtain ⟨q0, q1, q2, q3, q4, q5⟩ := hs.cells; have hl := hs.lt; replace HO := Lib.hid ho; replace HS := Lib.hid hs; clear ho hm hs) | (go_at_call 10; (with_reducible (refine (ask_s6 _ _ HO.out).mono ?_)); rintro e W2 ⟨rfl, ho, hm⟩; have hs := HS.out.mod hm; obtain ⟨q0, q1, q2, q3, q4, q5⟩ := hs.cells; have hl := hs.lt; replace HO := Lib.hid ho; replace HS := Lib.hid hs; clear ho hm hs)))
  go_wp2_with (fail)
  (with_reducible (refine (tick_s1 _ _ HO.out).mono ?_))
  rintro e W3 ⟨rfl, ho, hm⟩
  have hs := HS.out.mod hm
  obtain ⟨q0, q1, q2, q3, q4, q5⟩ := hs.cells
  have hl := hs.lt
  replace HO := Lib.hid ho
  replace HS := Lib.hid hs
  clear ho hm hs
  go_wp2_with (fail)
  have hx := hl
  have B3 := bl_alloc (Below.refl W3.heap.size W3) (.cells #[.int .i64 1073741824, .int .i64 0, .int .i64 0, .int .i64 0] 28)
  have hT := hp_new W3 (.cells #[.int .i64 1073741824, .int .i64 0, .int .i64 0, .int .i64 0] 28)
  have HO3 := Lib.hid (below_keeps B3 HO.out (lt_of_obj HO.out))
  have HS3 := Lib.hid (HS.out.bl B3)
  have HT3 := Lib.hid hT
  clear B3 hT
  refine (allows_any _ 3 2 1073741824 0 0 0 _ HO3.out).mono ?_
  rintro e _ ⟨rfl, rfl⟩
  rw [show allowB 2 3 = true from rfl]
  go_wp2_with (fail)
  (with_reducible (refine (tick_s2 _ _ HO3.out).mono ?_))
  rintro e W4 ⟨rfl, ho, hm⟩
  have hs := HS3.out.mod hm
  have hT := hm.keeps HT3.out (by omega)
  have HT := Lib.hid hT
  replace HO := Lib.hid ho
  replace HS := Lib.hid hs
  have t0 : W4.cell? ⟨W3.heap.size, 0, none⟩ = some (.int .i64 1073741824) := cell_of (i := 0) hT rfl
  have t1 : W4.cell? ⟨W3.heap.size, 1, none⟩ = some (.int .i64 0) := cell_of (i := 1) hT rfl
  have t2 : W4.cell? ⟨W3.heap.size, 2, none⟩ = some (.int .i64 0) := cell_of (i := 2) hT rfl
  have t3 : W4.cell? ⟨W3.heap.size, 3, none⟩ = some (.int .i64 0) := cell_of (i := 3) hT rfl
  have hl4 := hs.lt
  have hT4 := lt_of_obj hT
  clear ho hm hs hT HO3 HS3 HT3 q0 q1 q2 q3 q4 q5
  go_wp2_with (fail)
  have B4 := bl_alloc (Below.refl W4.heap.size W4) (.cells #[.int .i64 0, .int .i64 0, .int .i64 0, .int .i64 0] 28)
  have HB : Hid (Below w.heap.size w (W4.alloc (.cells #[.int .i64 0, .int .i64 0, .int .i64 0, .int .i64 0] 28)).drew) := Lib.hid (HS.out.bl B4).below.drew
  have hZ := hp_new W4 (.cells #[.int .i64 0, .int .i64 0, .int .i64 0, .int .i64 0] 28)
  have hob := below_keeps B4 HO.out (lt_of_obj HO.out)
  have htb := below_keeps B4 HT.out hT4
  have HO := Lib.hid (hp_drew hob)
  have HT := Lib.hid (hp_drew htb)
  have HZ := Lib.hid (hp_drew hZ)
  clear B4 hZ hob htb HS
  go_region_held3 (fun w' => w'.cell? ⟨W3.heap.size, 0, none⟩ = some (.int .i64 1073741824) ∧ w'.cell? ⟨W3.heap.size, 1, none⟩ = some (.int .i64 0) ∧ w'.cell? ⟨W3.heap.size, 2, none⟩ = some (.int .i64 0) ∧ w'.cell? ⟨W3.heap.size, 3, none⟩ = some (.int .i64 0) ∧ w'.cell? ⟨W4.heap.size, 0, none⟩ = some (.int .i64 0) ∧ w'.cell? ⟨W4.heap.size, 1, none⟩ = some (.int .i64 0) ∧ w'.cell? ⟨W4.heap.size, 2, none⟩ = some (.int .i64 0) ∧ w'.cell? ⟨W4.heap.size, 3, none⟩ = some (.int .i64 0)) (go_keep)
    ((first | (go_at_call 17; refine (level_any _).mono ?_; rintro e W6 ⟨rfl, hm⟩; replace HO := Lib.hid (below_keeps hm HO.out (lt_of_obj HO.out)); replace HT := Lib.hid (below_keeps hm HT.out (lt_of_obj HT.out)); replace HZ := Lib.hid (below_keeps hm HZ.out (lt_of_obj HZ.out)); replace HB := Lib.hid (HB.out.trans (hm.mono (HB.out.size))); clear hm; have a0 : W6.cell? ⟨W3.heap.size, 0, none⟩ = some (.int .i64 1073741824) := cell_of (i := 0) HT.out rfl; have b0 : W6.cell? ⟨W4.heap.size, 0, none⟩ = some (.int .i64 0) := cell_of (i := 0) HZ.out rfl; have a1 : W6.cell? ⟨W3.heap.size, 1, none⟩ = some (.int .i64 0) := cell_of (i := 1) HT.out rfl; have b1 : W6.cell? ⟨W4.heap.size, 1, none⟩ = some (.int .i64 0) := cell_of (i := 1) HZ.out rfl; have a2 : W6.cell? ⟨W3.heap.size, 2, none⟩ = some (.int .i64 0) := cell_of (i := 2) HT.out rfl; have b2 : W6.cell? ⟨W4.heap.size, 2, none⟩ = some (.int .i64 0) := cell_of (i := 2) HZ.out rfl; have a3 : W6.cell? ⟨W3.heap.size, 3, none⟩ = some (.int .i64 0) := cell_of (i := 3) HT.out rfl; have b3 : W6.cell? ⟨W4.heap.size, 3, none⟩ = some (.int .i64 0) := cell_of (i := 3) HZ.out rfl; skip) | (go_at_call 15; (with_reducible (refine (allows_any _ 3 0 1073741824 0 0 0 _ HO.out).mono ?_)); rintro e _ ⟨rfl, rfl⟩; rw [show allowB 0 3 = false from rfl]) | (go_at_call 15; (with_reducible (refine (allows_any _ 9 0 1073741824 0 0 0 _ HO.out).mono ?_)); rintro e _ ⟨rfl, rfl⟩; rw [show allowB 0 9 = true from rfl])))
  go_wp2_with (fail)
  go_ret
  exact ⟨rfl, HB.out⟩
end Go.Proofs.Ytfjhlgmdkkdooaa
