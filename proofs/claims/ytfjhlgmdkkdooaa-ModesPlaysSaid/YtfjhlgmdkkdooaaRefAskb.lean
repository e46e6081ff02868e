/-
  The walks of the reference's Ask and Tick, way by way. Conditions: numbers of 64 bits.
-/
import Derived.Test.YtfjhlgmdkkdooaaRefAsk
import Derived.Test.YtfjhlgmdkkdooaaKitf
namespace Go.Proofs.Ytfjhlgmdkkdooaa
open Go.RowKit Kit
set_option linter.unusedVariables false
set_option maxHeartbeats 1600000 in
theorem rask_low (r : Nat) (m A B C D mode a b c d ch le : Int) (tr : Bool) (w : World) (h : w.heap[r]? = some (RC m A B C D)) (hm : mode < 0) : Calls Try.prog 11 #[.pointer (some ⟨r, 0, none⟩), .int .i64 mode, .agg #[.int .i64 a, .int .i64 b, .int .i64 c, .int .i64 d], .agg #[.int .i64 ch, .int .i64 le, .bool tr]] w fun e w' => RAsk r m A B C D mode a b c d ch le tr w e w' := by
  have H := Lib.hid h
  clear h
  go_enter Try.func11, Try.ntmps11
  go_wp2_with (fail)
  go_ret
  exact rask_keep r m A B C D mode a b c d ch le tr w 2 H.out (bl_alloc (bl_alloc (Below.refl _ _) _) _) (by unfold askErr; rw [if_pos (by omega)]) (by omega)
set_option maxHeartbeats 1600000 in
theorem rask_high (r : Nat) (m A B C D mode a b c d ch le : Int) (tr : Bool) (w : World) (h : w.heap[r]? = some (RC m A B C D)) (hm : 2 < mode) : Calls Try.prog 11 #[.pointer (some ⟨r, 0, none⟩), .int .i64 mode, .agg #[.int .i64 a, .int .i64 b, .int .i64 c, .int .i64 d], .agg #[.int .i64 ch, .int .i64 le, .bool tr]] w fun e w' => RAsk r m A B C D mode a b c d ch le tr w e w' := by
  have H := Lib.hid h
  clear h
  go_enter Try.func11, Try.ntmps11
  go_wp2_with (fail)
  go_ret
  exact rask_keep r m A B C D mode a b c d ch le tr w 2 H.out (bl_alloc (bl_alloc (Below.refl _ _) _) _) (by unfold askErr; rw [if_pos (by omega)]) (by omega)
set_option maxHeartbeats 1600000 in
theorem rask_to0 (r : Nat) (m A B C D a b c d ch le : Int) (tr : Bool) (w : World) (h : w.heap[r]? = some (RC m A B C D))  : Calls Try.prog 11 #[.pointer (some ⟨r, 0, none⟩), .int .i64 0, .agg #[.int .i64 a, .int .i64 b, .int .i64 c, .int .i64 d], .agg #[.int .i64 ch, .int .i64 le, .bool tr]] w fun e w' => RAsk r m A B C D 0 a b c d ch le tr w e w' := by
  have H := Lib.hid h
  clear h
  obtain ⟨x0, x1, x2, x3, x4, xf, xl⟩ := rc_cells r m A B C D H.out
  go_enter Try.func11, Try.ntmps11
  go_wp2_with (fail)
  go_ret
  exact rask_set2 r m A B C D 0 a b c d ch le tr w _ _ H.out (by simp [askErr]) (by omega)
set_option maxHeartbeats 1600000 in
theorem rask_badq (r : Nat) (m A B C D a b c d ch le : Int) (tr : Bool) (w : World) (h : w.heap[r]? = some (RC m A B C D)) (hv : qv [a, b, c, d] = false) : Calls Try.prog 11 #[.pointer (some ⟨r, 0, none⟩), .int .i64 2, .agg #[.int .i64 a, .int .i64 b, .int .i64 c, .int .i64 d], .agg #[.int .i64 ch, .int .i64 le, .bool tr]] w fun e w' => RAsk r m A B C D 2 a b c d ch le tr w e w' := by
  have H := Lib.hid h
  clear h
  have HV := Lib.hid hv
  clear hv
  go_enter Try.func11, Try.ntmps11
  go_wp2_with (fail)
  refine (refvalid_any _ _ _ _ _).mono ?_
  rw [HV.out]
  rintro e w2 ⟨rfl, hb2⟩
  have B2 := Lib.hid (bl_step (bl_alloc (bl_alloc (Below.refl _ _) _) _) hb2)
  clear hb2
  go_wp2_with (fail)
  go_ret
  exact rask_keep r m A B C D 2 a b c d ch le tr w 2 H.out B2.out (by unfold askErr; rw [if_pos (.inr (.inr ⟨rfl, HV.out⟩))]) (by omega)
set_option maxHeartbeats 1600000 in
theorem rask_bad1 (r : Nat) (m A B C D a b c d ch le : Int) (tr : Bool) (w : World) (h : w.heap[r]? = some (RC m A B C D)) (hg : goodB ch le tr = false) : Calls Try.prog 11 #[.pointer (some ⟨r, 0, none⟩), .int .i64 1, .agg #[.int .i64 a, .int .i64 b, .int .i64 c, .int .i64 d], .agg #[.int .i64 ch, .int .i64 le, .bool tr]] w fun e w' => RAsk r m A B C D 1 a b c d ch le tr w e w' := by
  have H := Lib.hid h
  clear h
  have HG := Lib.hid hg
  clear hg
  go_enter Try.func11, Try.ntmps11
  go_wp2_with (fail)
  refine (refgood_any _ _ _ _).mono ?_
  rw [HG.out]
  rintro e w3 ⟨rfl, hb3⟩
  have B3 := Lib.hid (bl_step (bl_alloc (bl_alloc (Below.refl _ _) _) _) hb3)
  have R3 := Lib.hid (below_keeps B3.out H.out (lt_of_obj H.out))
  clear hb3
  go_wp2_with (fail)
  go_ret
  exact rask_keep r m A B C D 1 a b c d ch le tr w 360 H.out B3.out (by simp [askErr, HG.out]) (by omega)
set_option maxHeartbeats 1600000 in
theorem rask_to1 (r : Nat) (m A B C D a b c d ch le : Int) (tr : Bool) (w : World) (h : w.heap[r]? = some (RC m A B C D)) (hg : goodB ch le tr = true) : Calls Try.prog 11 #[.pointer (some ⟨r, 0, none⟩), .int .i64 1, .agg #[.int .i64 a, .int .i64 b, .int .i64 c, .int .i64 d], .agg #[.int .i64 ch, .int .i64 le, .bool tr]] w fun e w' => RAsk r m A B C D 1 a b c d ch le tr w e w' := by
  have H := Lib.hid h
  clear h
  have HG := Lib.hid hg
  clear hg
  go_enter Try.func11, Try.ntmps11
  go_wp2_with (fail)
  refine (refgood_any _ _ _ _).mono ?_
  rw [HG.out]
  rintro e w3 ⟨rfl, hb3⟩
  have B3 := Lib.hid (bl_step (bl_alloc (bl_alloc (Below.refl _ _) _) _) hb3)
  have R3 := Lib.hid (below_keeps B3.out H.out (lt_of_obj H.out))
  clear hb3
  obtain ⟨x0, x1, x2, x3, x4, xf, xl⟩ := rc_cells r m A B C D R3.out
  go_wp2_with (fail)
  go_ret
  exact rask_set r m A B C D 1 a b c d ch le tr w R3.out B3.out (by simp [askErr, HG.out]) (by omega)
set_option maxHeartbeats 1600000 in
theorem rask_bad2 (r : Nat) (m A B C D a b c d ch le : Int) (tr : Bool) (w : World) (h : w.heap[r]? = some (RC m A B C D)) (hv : qv [a, b, c, d] = true) (hg : goodB ch le tr = false) : Calls Try.prog 11 #[.pointer (some ⟨r, 0, none⟩), .int .i64 2, .agg #[.int .i64 a, .int .i64 b, .int .i64 c, .int .i64 d], .agg #[.int .i64 ch, .int .i64 le, .bool tr]] w fun e w' => RAsk r m A B C D 2 a b c d ch le tr w e w' := by
  have H := Lib.hid h
  clear h
  have HV := Lib.hid hv; have HG := Lib.hid hg
  clear hv hg
  go_enter Try.func11, Try.ntmps11
  go_wp2_with (fail)
  refine (refvalid_any _ _ _ _ _).mono ?_
  rw [HV.out]
  rintro e w2 ⟨rfl, hb2⟩
  have B2 := Lib.hid (bl_step (bl_alloc (bl_alloc (Below.refl _ _) _) _) hb2)
  have T2 := Lib.hid (below_keeps hb2 (hp_old (hp_new w (.cells #[.int .i64 a, .int .i64 b, .int .i64 c, .int .i64 d] 28)) (.cells #[.int .i64 ch, .int .i64 le, .bool tr] 32)) (lt_of_obj (hp_old (hp_new w _) _)))
  have P2 := Lib.hid (show w2.heap[w.heap.size + 1]? = some (.cells #[.int .i64 ch, .int .i64 le, .bool tr] 32) from by have h := hp_new (w.alloc (.cells #[.int .i64 a, .int .i64 b, .int .i64 c, .int .i64 d] 28)) (.cells #[.int .i64 ch, .int .i64 le, .bool tr] 32); have h2 := below_keeps hb2 h (lt_of_obj h); simpa using h2)
  clear hb2
  have t0 : w2.cell? ⟨w.heap.size, 0, none⟩ = some (.int .i64 a) := cell_of (i := 0) T2.out rfl
  have t1 : w2.cell? ⟨w.heap.size, 1, none⟩ = some (.int .i64 b) := cell_of (i := 1) T2.out rfl
  have t2 : w2.cell? ⟨w.heap.size, 2, none⟩ = some (.int .i64 c) := cell_of (i := 2) T2.out rfl
  have t3 : w2.cell? ⟨w.heap.size, 3, none⟩ = some (.int .i64 d) := cell_of (i := 3) T2.out rfl
  have p0 : w2.cell? ⟨w.heap.size + 1, 0, none⟩ = some (.int .i64 ch) := cell_of (i := 0) P2.out rfl
  have p1 : w2.cell? ⟨w.heap.size + 1, 1, none⟩ = some (.int .i64 le) := cell_of (i := 1) P2.out rfl
  have p2 : w2.cell? ⟨w.heap.size + 1, 2, none⟩ = some (.bool tr) := cell_of (i := 2) P2.out rfl
  have l2 := lt_of_obj P2.out
  go_wp2_with (fail)
  refine (refgood_any _ _ _ _).mono ?_
  rw [HG.out]
  rintro e w3 ⟨rfl, hb3⟩
  have B3 := Lib.hid (bl_step B2.out hb3)
  have R3 := Lib.hid (below_keeps B3.out H.out (lt_of_obj H.out))
  have T3 := Lib.hid (below_keeps hb3 T2.out (lt_of_obj T2.out))
  have P3 := Lib.hid (below_keeps hb3 P2.out (lt_of_obj P2.out))
  clear hb3 t0 t1 t2 t3 p0 p1 p2 l2
  go_wp2_with (fail)
  go_ret
  exact rask_keep r m A B C D 2 a b c d ch le tr w 360 H.out B3.out (by simp [askErr, HG.out, HV.out]) (by omega)
set_option maxHeartbeats 1600000 in
theorem rask_from0 (r : Nat) (A B C D a b c d ch le : Int) (tr : Bool) (w : World) (h : w.heap[r]? = some (RC 0 A B C D)) (hv : qv [a, b, c, d] = true) (hg : goodB ch le tr = true) : Calls Try.prog 11 #[.pointer (some ⟨r, 0, none⟩), .int .i64 2, .agg #[.int .i64 a, .int .i64 b, .int .i64 c, .int .i64 d], .agg #[.int .i64 ch, .int .i64 le, .bool tr]] w fun e w' => RAsk r 0 A B C D 2 a b c d ch le tr w e w' := by
  have H := Lib.hid h
  clear h
  have HV := Lib.hid hv; have HG := Lib.hid hg
  clear hv hg
  go_enter Try.func11, Try.ntmps11
  go_wp2_with (fail)
  refine (refvalid_any _ _ _ _ _).mono ?_
  rw [HV.out]
  rintro e w2 ⟨rfl, hb2⟩
  have B2 := Lib.hid (bl_step (bl_alloc (bl_alloc (Below.refl _ _) _) _) hb2)
  have T2 := Lib.hid (below_keeps hb2 (hp_old (hp_new w (.cells #[.int .i64 a, .int .i64 b, .int .i64 c, .int .i64 d] 28)) (.cells #[.int .i64 ch, .int .i64 le, .bool tr] 32)) (lt_of_obj (hp_old (hp_new w _) _)))
  have P2 := Lib.hid (show w2.heap[w.heap.size + 1]? = some (.cells #[.int .i64 ch, .int .i64 le, .bool tr] 32) from by have h := hp_new (w.alloc (.cells #[.int .i64 a, .int .i64 b, .int .i64 c, .int .i64 d] 28)) (.cells #[.int .i64 ch, .int .i64 le, .bool tr] 32); have h2 := below_keeps hb2 h (lt_of_obj h); simpa using h2)
  clear hb2
  have t0 : w2.cell? ⟨w.heap.size, 0, none⟩ = some (.int .i64 a) := cell_of (i := 0) T2.out rfl
  have t1 : w2.cell? ⟨w.heap.size, 1, none⟩ = some (.int .i64 b) := cell_of (i := 1) T2.out rfl
  have t2 : w2.cell? ⟨w.heap.size, 2, none⟩ = some (.int .i64 c) := cell_of (i := 2) T2.out rfl
  have t3 : w2.cell? ⟨w.heap.size, 3, none⟩ = some (.int .i64 d) := cell_of (i := 3) T2.out rfl
  have p0 : w2.cell? ⟨w.heap.size + 1, 0, none⟩ = some (.int .i64 ch) := cell_of (i := 0) P2.out rfl
  have p1 : w2.cell? ⟨w.heap.size + 1, 1, none⟩ = some (.int .i64 le) := cell_of (i := 1) P2.out rfl
  have p2 : w2.cell? ⟨w.heap.size + 1, 2, none⟩ = some (.bool tr) := cell_of (i := 2) P2.out rfl
  have l2 := lt_of_obj P2.out
  go_wp2_with (fail)
  refine (refgood_any _ _ _ _).mono ?_
  rw [HG.out]
  rintro e w3 ⟨rfl, hb3⟩
  have B3 := Lib.hid (bl_step B2.out hb3)
  have R3 := Lib.hid (below_keeps B3.out H.out (lt_of_obj H.out))
  have T3 := Lib.hid (below_keeps hb3 T2.out (lt_of_obj T2.out))
  have P3 := Lib.hid (below_keeps hb3 P2.out (lt_of_obj P2.out))
  clear hb3 t0 t1 t2 t3 p0 p1 p2 l2
  obtain ⟨x0, x1, x2, x3, x4, xf, xl⟩ := rc_cells r 0 A B C D R3.out
  go_wp2_with (fail)
  go_ret
  exact rask_keep r 0 A B C D 2 a b c d ch le tr w 360 H.out B3.out (by simp [askErr, HG.out, HV.out]) (by omega)
set_option maxHeartbeats 1600000 in
theorem rask_to2 (r : Nat) (m A B C D a b c d ch le : Int) (tr : Bool) (w : World) (h : w.heap[r]? = some (RC m A B C D)) (hm0 : (m == 0) = false) (hv : qv [a, b, c, d] = true) (hg : goodB ch le tr = true) : Calls Try.prog 11 #[.pointer (some ⟨r, 0, none⟩), .int .i64 2, .agg #[.int .i64 a, .int .i64 b, .int .i64 c, .int .i64 d], .agg #[.int .i64 ch, .int .i64 le, .bool tr]] w fun e w' => RAsk r m A B C D 2 a b c d ch le tr w e w' := by
  have H := Lib.hid h
  clear h
  have HV := Lib.hid hv; have HG := Lib.hid hg
  clear hv hg
  go_enter Try.func11, Try.ntmps11
  go_wp2_with (fail)
  refine (refvalid_any _ _ _ _ _).mono ?_
  rw [HV.out]
  rintro e w2 ⟨rfl, hb2⟩
  have B2 := Lib.hid (bl_step (bl_alloc (bl_alloc (Below.refl _ _) _) _) hb2)
  have T2 := Lib.hid (below_keeps hb2 (hp_old (hp_new w (.cells #[.int .i64 a, .int .i64 b, .int .i64 c, .int .i64 d] 28)) (.cells #[.int .i64 ch, .int .i64 le, .bool tr] 32)) (lt_of_obj (hp_old (hp_new w _) _)))
  have P2 := Lib.hid (show w2.heap[w.heap.size + 1]? = some (.cells #[.int .i64 ch, .int .i64 le, .bool tr] 32) from by have h := hp_new (w.alloc (.cells #[.int .i64 a, .int .i64 b, .int .i64 c, .int .i64 d] 28)) (.cells #[.int .i64 ch, .int .i64 le, .bool tr] 32); have h2 := below_keeps hb2 h (lt_of_obj h); simpa using h2)
  clear hb2
  have t0 : w2.cell? ⟨w.heap.size, 0, none⟩ = some (.int .i64 a) := cell_of (i := 0) T2.out rfl
  have t1 : w2.cell? ⟨w.heap.size, 1, none⟩ = some (.int .i64 b) := cell_of (i := 1) T2.out rfl
  have t2 : w2.cell? ⟨w.heap.size, 2, none⟩ = some (.int .i64 c) := cell_of (i := 2) T2.out rfl
  have t3 : w2.cell? ⟨w.heap.size, 3, none⟩ = some (.int .i64 d) := cell_of (i := 3) T2.out rfl
  have p0 : w2.cell? ⟨w.heap.size + 1, 0, none⟩ = some (.int .i64 ch) := cell_of (i := 0) P2.out rfl
  have p1 : w2.cell? ⟨w.heap.size + 1, 1, none⟩ = some (.int .i64 le) := cell_of (i := 1) P2.out rfl
  have p2 : w2.cell? ⟨w.heap.size + 1, 2, none⟩ = some (.bool tr) := cell_of (i := 2) P2.out rfl
  have l2 := lt_of_obj P2.out
  go_wp2_with (fail)
  refine (refgood_any _ _ _ _).mono ?_
  rw [HG.out]
  rintro e w3 ⟨rfl, hb3⟩
  have B3 := Lib.hid (bl_step B2.out hb3)
  have R3 := Lib.hid (below_keeps B3.out H.out (lt_of_obj H.out))
  have T3 := Lib.hid (below_keeps hb3 T2.out (lt_of_obj T2.out))
  have P3 := Lib.hid (below_keeps hb3 P2.out (lt_of_obj P2.out))
  clear hb3 t0 t1 t2 t3 p0 p1 p2 l2
  obtain ⟨x0, x1, x2, x3, x4, xf, xl⟩ := rc_cells r m A B C D R3.out
  have t0 : w3.cell? ⟨w.heap.size, 0, none⟩ = some (.int .i64 a) := cell_of (i := 0) T3.out rfl
  have t1 : w3.cell? ⟨w.heap.size, 1, none⟩ = some (.int .i64 b) := cell_of (i := 1) T3.out rfl
  have t2 : w3.cell? ⟨w.heap.size, 2, none⟩ = some (.int .i64 c) := cell_of (i := 2) T3.out rfl
  have t3 : w3.cell? ⟨w.heap.size, 3, none⟩ = some (.int .i64 d) := cell_of (i := 3) T3.out rfl
  have p0 : w3.cell? ⟨w.heap.size + 1, 0, none⟩ = some (.int .i64 ch) := cell_of (i := 0) P3.out rfl
  have p1 : w3.cell? ⟨w.heap.size + 1, 1, none⟩ = some (.int .i64 le) := cell_of (i := 1) P3.out rfl
  have p2 : w3.cell? ⟨w.heap.size + 1, 2, none⟩ = some (.bool tr) := cell_of (i := 2) P3.out rfl
  have l3 := lt_of_obj P3.out
  have HM : Hid (m ≠ 0) := Lib.hid (by simpa using hm0)
  have lr : r < w.heap.size := lt_of_obj H.out
  go_wp2_with (fail)
  go_ret
  exact rask_aim r m A B C D a b c d ch le tr w R3.out B3.out (by simp [askErr, HG.out, HV.out, HM.out])
theorem rask_any (r : Nat) (m A B C D mode a b c d ch le : Int) (tr : Bool) (w : World) (h : w.heap[r]? = some (RC m A B C D)) : Calls Try.prog 11 #[.pointer (some ⟨r, 0, none⟩), .int .i64 mode, .agg #[.int .i64 a, .int .i64 b, .int .i64 c, .int .i64 d], .agg #[.int .i64 ch, .int .i64 le, .bool tr]] w fun e w' => RAsk r m A B C D mode a b c d ch le tr w e w' := by
  by_cases h1 : mode < 0
  · exact rask_low r m A B C D mode a b c d ch le tr w h h1
  · by_cases h2 : 2 < mode
    · exact rask_high r m A B C D mode a b c d ch le tr w h h2
    · have hc : mode = 0 ∨ mode = 1 ∨ mode = 2 := by omega
      rcases hc with rfl | rfl | rfl
      · exact rask_to0 r m A B C D a b c d ch le tr w h
      · rcases hg : goodB ch le tr
        · exact rask_bad1 r m A B C D a b c d ch le tr w h hg
        · exact rask_to1 r m A B C D a b c d ch le tr w h hg
      · rcases hv : qv [a, b, c, d]
        · exact rask_badq r m A B C D a b c d ch le tr w h hv
        · rcases hg : goodB ch le tr
          · exact rask_bad2 r m A B C D a b c d ch le tr w h hv hg
          · rcases hm : (m == 0)
            · exact rask_to2 r m A B C D a b c d ch le tr w h hm hv hg
            · have : m = 0 := by simpa using hm
              subst this
              exact rask_from0 r A B C D a b c d ch le tr w h hv hg
def RTick (r : Nat) (m A B C D ch le : Int) (tr : Bool) (w : World) (e : Ending) (w' : World) : Prop :=
  e = .returned (.tuple #[.int .i64 (tkm m ch le tr), aim (tkm m ch le tr) A B C D]) ∧ w'.heap[r]? = some (RC (tkm m ch le tr) A B C D) ∧ Mod (fun k => k = r) w w'
theorem rt_end {r : Nat} {m A B C D ch le : Int} {tr : Bool} {w w3 : World} {v : Value} (t : Int) (h : w3.heap[r]? = some (RC t A B C D)) (hb : Mod (fun k => k = r) w w3) (ht : tkm m ch le tr = t) (hv : aim t A B C D = v) (hne : r ≠ w.heap.size + 1) (v0 v1 v2 v3 : Value) :
    RTick r m A B C D ch le tr w (.returned (.tuple #[.int .i64 t, v])) ((((w3.setCell ⟨w.heap.size + 1, 0, none⟩ v0).setCell ⟨w.heap.size + 1, 1, none⟩ v1).setCell ⟨w.heap.size + 1, 2, none⟩ v2).setCell ⟨w.heap.size + 1, 3, none⟩ v3) :=
  ⟨by rw [ht, hv], by rw [ht]; exact hp_set_ne (hp_set_ne (hp_set_ne (hp_set_ne h hne _) hne _) hne _) hne _, mod_new (mod_new (mod_new (mod_new hb (by omega) _) (by omega) _) (by omega) _) (by omega) _⟩
set_option maxHeartbeats 1600000 in
theorem rtick_bad (r : Nat) (m A B C D ch le : Int) (tr : Bool) (w : World) (h : w.heap[r]? = some (RC m A B C D)) (hg : goodB ch le tr = false) : Calls Try.prog 13 #[.pointer (some ⟨r, 0, none⟩), .agg #[.int .i64 ch, .int .i64 le, .bool tr]] w fun e w' => RTick r m A B C D ch le tr w e w' := by
  have H := Lib.hid h
  have lr := lt_of_obj h
  clear h
  have HG := Lib.hid hg
  clear hg
  go_enter Try.func13, Try.ntmps13
  go_wp2_with (fail)
  refine (refgood_any _ _ _ _).mono ?_
  rw [HG.out]
  rintro e w3 ⟨rfl, hb3⟩
  have B3 := Lib.hid (bl_step (bl_alloc (bl_alloc (Below.refl _ _) _) _) hb3)
  have R3 := Lib.hid (below_keeps B3.out H.out (lt_of_obj H.out))
  have Z3 := Lib.hid (show w3.heap[w.heap.size + 1]? = some (.cells #[.int .i64 0, .int .i64 0, .int .i64 0, .int .i64 0] 28) from by have h := hp_new (w.alloc (.cells #[.int .i64 ch, .int .i64 le, .bool tr] 32)) (.cells #[.int .i64 0, .int .i64 0, .int .i64 0, .int .i64 0] 28); have h2 := below_keeps hb3 h (lt_of_obj h); simpa using h2)
  clear hb3
  obtain ⟨x0, x1, x2, x3, x4, xf, xl⟩ := rc_cells r m A B C D R3.out
  have zf : ∀ j, w3.frozen? ⟨w.heap.size + 1, j, none⟩ = false := fun j => free_of Z3.out
  have z0 : w3.cell? ⟨w.heap.size + 1, 0, none⟩ = some (.int .i64 0) := cell_of (i := 0) Z3.out rfl
  have z1 : w3.cell? ⟨w.heap.size + 1, 1, none⟩ = some (.int .i64 0) := cell_of (i := 1) Z3.out rfl
  have z2 : w3.cell? ⟨w.heap.size + 1, 2, none⟩ = some (.int .i64 0) := cell_of (i := 2) Z3.out rfl
  have z3 : w3.cell? ⟨w.heap.size + 1, 3, none⟩ = some (.int .i64 0) := cell_of (i := 3) Z3.out rfl
  have lz := lt_of_obj Z3.out
  have hne : r ≠ w.heap.size + 1 := by omega
  go_wp2_with (fail)
  refine bodyPost_ret (v := .tuple #[.int .i64 0, .agg #[.int .i64 0, .int .i64 0, .int .i64 0, .int .i64 0]]) (by simp [results, Try.results13]; go_simp) rfl ?_
  exact rt_end 0 (hp_as (hp_set R3.out _) rfl) (mod_at (Mod.of_below B3.out) _) (by unfold tkm; rw [if_neg (by rw [HG.out]; simp)]) rfl hne _ _ _ _
set_option maxHeartbeats 1600000 in
theorem rtick_0 (r : Nat) (A B C D ch le : Int) (tr : Bool) (w : World) (h : w.heap[r]? = some (RC 0 A B C D)) (hg : goodB ch le tr = true) : Calls Try.prog 13 #[.pointer (some ⟨r, 0, none⟩), .agg #[.int .i64 ch, .int .i64 le, .bool tr]] w fun e w' => RTick r 0 A B C D ch le tr w e w' := by
  have H := Lib.hid h
  have lr := lt_of_obj h
  clear h
  have HG := Lib.hid hg
  clear hg
  go_enter Try.func13, Try.ntmps13
  go_wp2_with (fail)
  refine (refgood_any _ _ _ _).mono ?_
  rw [HG.out]
  rintro e w3 ⟨rfl, hb3⟩
  have B3 := Lib.hid (bl_step (bl_alloc (bl_alloc (Below.refl _ _) _) _) hb3)
  have R3 := Lib.hid (below_keeps B3.out H.out (lt_of_obj H.out))
  have Z3 := Lib.hid (show w3.heap[w.heap.size + 1]? = some (.cells #[.int .i64 0, .int .i64 0, .int .i64 0, .int .i64 0] 28) from by have h := hp_new (w.alloc (.cells #[.int .i64 ch, .int .i64 le, .bool tr] 32)) (.cells #[.int .i64 0, .int .i64 0, .int .i64 0, .int .i64 0] 28); have h2 := below_keeps hb3 h (lt_of_obj h); simpa using h2)
  clear hb3
  obtain ⟨x0, x1, x2, x3, x4, xf, xl⟩ := rc_cells r 0 A B C D R3.out
  have zf : ∀ j, w3.frozen? ⟨w.heap.size + 1, j, none⟩ = false := fun j => free_of Z3.out
  have z0 : w3.cell? ⟨w.heap.size + 1, 0, none⟩ = some (.int .i64 0) := cell_of (i := 0) Z3.out rfl
  have z1 : w3.cell? ⟨w.heap.size + 1, 1, none⟩ = some (.int .i64 0) := cell_of (i := 1) Z3.out rfl
  have z2 : w3.cell? ⟨w.heap.size + 1, 2, none⟩ = some (.int .i64 0) := cell_of (i := 2) Z3.out rfl
  have z3 : w3.cell? ⟨w.heap.size + 1, 3, none⟩ = some (.int .i64 0) := cell_of (i := 3) Z3.out rfl
  have lz := lt_of_obj Z3.out
  have hne : r ≠ w.heap.size + 1 := by omega
  go_wp2_with (fail)
  refine bodyPost_ret (v := .tuple #[.int .i64 0, .agg #[.int .i64 0, .int .i64 0, .int .i64 0, .int .i64 0]]) (by simp [results, Try.results13]; go_simp) rfl ?_
  exact rt_end 0 R3.out (Mod.of_below B3.out) (by unfold tkm; rw [if_pos HG.out]) rfl hne _ _ _ _
set_option maxHeartbeats 1600000 in
theorem rtick_1 (r : Nat) (A B C D ch le : Int) (tr : Bool) (w : World) (h : w.heap[r]? = some (RC 1 A B C D)) (hg : goodB ch le tr = true) : Calls Try.prog 13 #[.pointer (some ⟨r, 0, none⟩), .agg #[.int .i64 ch, .int .i64 le, .bool tr]] w fun e w' => RTick r 1 A B C D ch le tr w e w' := by
  have H := Lib.hid h
  have lr := lt_of_obj h
  clear h
  have HG := Lib.hid hg
  clear hg
  go_enter Try.func13, Try.ntmps13
  go_wp2_with (fail)
  refine (refgood_any _ _ _ _).mono ?_
  rw [HG.out]
  rintro e w3 ⟨rfl, hb3⟩
  have B3 := Lib.hid (bl_step (bl_alloc (bl_alloc (Below.refl _ _) _) _) hb3)
  have R3 := Lib.hid (below_keeps B3.out H.out (lt_of_obj H.out))
  have Z3 := Lib.hid (show w3.heap[w.heap.size + 1]? = some (.cells #[.int .i64 0, .int .i64 0, .int .i64 0, .int .i64 0] 28) from by have h := hp_new (w.alloc (.cells #[.int .i64 ch, .int .i64 le, .bool tr] 32)) (.cells #[.int .i64 0, .int .i64 0, .int .i64 0, .int .i64 0] 28); have h2 := below_keeps hb3 h (lt_of_obj h); simpa using h2)
  clear hb3
  obtain ⟨x0, x1, x2, x3, x4, xf, xl⟩ := rc_cells r 1 A B C D R3.out
  have zf : ∀ j, w3.frozen? ⟨w.heap.size + 1, j, none⟩ = false := fun j => free_of Z3.out
  have z0 : w3.cell? ⟨w.heap.size + 1, 0, none⟩ = some (.int .i64 0) := cell_of (i := 0) Z3.out rfl
  have z1 : w3.cell? ⟨w.heap.size + 1, 1, none⟩ = some (.int .i64 0) := cell_of (i := 1) Z3.out rfl
  have z2 : w3.cell? ⟨w.heap.size + 1, 2, none⟩ = some (.int .i64 0) := cell_of (i := 2) Z3.out rfl
  have z3 : w3.cell? ⟨w.heap.size + 1, 3, none⟩ = some (.int .i64 0) := cell_of (i := 3) Z3.out rfl
  have lz := lt_of_obj Z3.out
  have hne : r ≠ w.heap.size + 1 := by omega
  go_wp2_with (fail)
  refine bodyPost_ret (v := .tuple #[.int .i64 1, .agg #[.int .i64 0, .int .i64 0, .int .i64 0, .int .i64 0]]) (by simp [results, Try.results13]; go_simp) rfl ?_
  exact rt_end 1 R3.out (Mod.of_below B3.out) (by unfold tkm; rw [if_pos HG.out]) rfl hne _ _ _ _
set_option maxHeartbeats 1600000 in
theorem rtick_2 (r : Nat) (A B C D ch le : Int) (tr : Bool) (w : World) (h : w.heap[r]? = some (RC 2 A B C D)) (hg : goodB ch le tr = true) : Calls Try.prog 13 #[.pointer (some ⟨r, 0, none⟩), .agg #[.int .i64 ch, .int .i64 le, .bool tr]] w fun e w' => RTick r 2 A B C D ch le tr w e w' := by
  have H := Lib.hid h
  have lr := lt_of_obj h
  clear h
  have HG := Lib.hid hg
  clear hg
  go_enter Try.func13, Try.ntmps13
  go_wp2_with (fail)
  refine (refgood_any _ _ _ _).mono ?_
  rw [HG.out]
  rintro e w3 ⟨rfl, hb3⟩
  have B3 := Lib.hid (bl_step (bl_alloc (bl_alloc (Below.refl _ _) _) _) hb3)
  have R3 := Lib.hid (below_keeps B3.out H.out (lt_of_obj H.out))
  have Z3 := Lib.hid (show w3.heap[w.heap.size + 1]? = some (.cells #[.int .i64 0, .int .i64 0, .int .i64 0, .int .i64 0] 28) from by have h := hp_new (w.alloc (.cells #[.int .i64 ch, .int .i64 le, .bool tr] 32)) (.cells #[.int .i64 0, .int .i64 0, .int .i64 0, .int .i64 0] 28); have h2 := below_keeps hb3 h (lt_of_obj h); simpa using h2)
  clear hb3
  obtain ⟨x0, x1, x2, x3, x4, xf, xl⟩ := rc_cells r 2 A B C D R3.out
  have zf : ∀ j, w3.frozen? ⟨w.heap.size + 1, j, none⟩ = false := fun j => free_of Z3.out
  have z0 : w3.cell? ⟨w.heap.size + 1, 0, none⟩ = some (.int .i64 0) := cell_of (i := 0) Z3.out rfl
  have z1 : w3.cell? ⟨w.heap.size + 1, 1, none⟩ = some (.int .i64 0) := cell_of (i := 1) Z3.out rfl
  have z2 : w3.cell? ⟨w.heap.size + 1, 2, none⟩ = some (.int .i64 0) := cell_of (i := 2) Z3.out rfl
  have z3 : w3.cell? ⟨w.heap.size + 1, 3, none⟩ = some (.int .i64 0) := cell_of (i := 3) Z3.out rfl
  have lz := lt_of_obj Z3.out
  have hne : r ≠ w.heap.size + 1 := by omega
  go_wp2_with (fail)
  refine region_calm_tail 5 (by kernel_rfl) (by kernel_rfl) ?_
  simp only [List.take_succ_cons, List.take_zero, List.drop_succ_cons, List.drop_zero]
  repeat (quiet_step (fail))
  refine wpQuiet_nil ?_
  intro w5 hw'
  have hb5 := below_of_ext hw'
  have B5 := Lib.hid (bl_step B3.out hb5)
  have R5 := Lib.hid (below_keeps hb5 R3.out (lt_of_obj R3.out))
  have Z5 := Lib.hid (below_keeps hb5 Z3.out (lt_of_obj Z3.out))
  clear hb5 hw' z0 z1 z2 z3 zf lz x0 x1 x2 x3 x4 xf xl
  have zf : ∀ j, w5.frozen? ⟨w.heap.size + 1, j, none⟩ = false := fun j => free_of Z5.out
  have z0 : w5.cell? ⟨w.heap.size + 1, 0, none⟩ = some (.int .i64 0) := cell_of (i := 0) Z5.out rfl
  have z1 : w5.cell? ⟨w.heap.size + 1, 1, none⟩ = some (.int .i64 0) := cell_of (i := 1) Z5.out rfl
  have z2 : w5.cell? ⟨w.heap.size + 1, 2, none⟩ = some (.int .i64 0) := cell_of (i := 2) Z5.out rfl
  have z3 : w5.cell? ⟨w.heap.size + 1, 3, none⟩ = some (.int .i64 0) := cell_of (i := 3) Z5.out rfl
  have lz := lt_of_obj Z5.out
  go_wp2_with (fail)
  refine bodyPost_ret (v := .tuple #[.int .i64 2, .agg #[.int .i64 A, .int .i64 B, .int .i64 C, .int .i64 D]]) (by simp [results, Try.results13]; go_simp) rfl ?_
  exact rt_end 2 R5.out (Mod.of_below B5.out) (by unfold tkm; rw [if_pos HG.out]) rfl hne _ _ _ _
theorem rtick_any (r : Nat) (m A B C D ch le : Int) (tr : Bool) (w : World) (hm : m = 0 ∨ m = 1 ∨ m = 2) (h : w.heap[r]? = some (RC m A B C D)) : Calls Try.prog 13 #[.pointer (some ⟨r, 0, none⟩), .agg #[.int .i64 ch, .int .i64 le, .bool tr]] w fun e w' => RTick r m A B C D ch le tr w e w' := by
  rcases hg : goodB ch le tr
  · exact rtick_bad r m A B C D ch le tr w h hg
  · rcases hm with rfl | rfl | rfl
    · exact rtick_0 r A B C D ch le tr w h hg
    · exact rtick_1 r A B C D ch le tr w h hg
    · exact rtick_2 r A B C D ch le tr w h hg
end Go.Proofs.Ytfjhlgmdkkdooaa
