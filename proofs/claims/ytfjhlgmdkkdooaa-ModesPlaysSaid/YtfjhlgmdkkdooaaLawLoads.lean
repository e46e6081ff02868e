/-
  The walk of the law ModesLoads. Conditions: none.
-/
import Derived.Test.YtfjhlgmdkkdooaaShown
namespace Go.Proofs.Ytfjhlgmdkkdooaa
open Go.RowKit Kit
set_option linter.unusedVariables false
set_option linter.unusedSimpArgs false
theorem ask_as {f : Nat} {m A B C D mode a b c d ch le : Int} {tr : Bool} {w : World} {n m' A' B' C' D' : Int} (h : w.heap[f]? = some (MC m A B C D)) (hq : ∀ x ∈ [a, b, c, d], -9223372036854775808 ≤ x ∧ x ≤ 9223372036854775807)
    (hn : askErr m mode a b c d ch le tr = n) (ho : askObj m A B C D mode a b c d ch le tr = MC m' A' B' C' D') :
    Calls Try.prog 10 #[.pointer (some ⟨f, 0, none⟩), .int .i64 mode, .agg #[.int .i64 a, .int .i64 b, .int .i64 c, .int .i64 d], .agg #[.int .i64 ch, .int .i64 le, .bool tr]] w fun e w' => e = .returned (.int .i64 n) ∧ w'.heap[f]? = some (MC m' A' B' C' D') ∧ Mod (fun k => k = f) w w' :=
  (ask_any f m A B C D mode a b c d ch le tr w h hq).mono fun e w' ⟨h1, h2, h3⟩ => ⟨by rw [h1, hn], by rw [h2, ho], h3⟩
/-- Two boxes and an object, and what was there. -/
structure LS (w : World) (f q : Nat) (m A B C D a b c d ch le : Int) (tr : Bool) (W : World) : Prop where
  obj : W.heap[f]? = some (MC m A B C D)
  tgt : W.heap[q]? = some (.cells #[.int .i64 a, .int .i64 b, .int .i64 c, .int .i64 d] 28)
  pose : W.heap[q + 1]? = some (.cells #[.int .i64 ch, .int .i64 le, .bool tr] 32)
  below : Below w.heap.size w W
  fq : q + 1 < f
  base : w.heap.size ≤ q
theorem LS.step {w : World} {f q : Nat} {m A B C D a b c d ch le m' A' B' C' D' : Int} {tr : Bool} {W W' : World} (h : LS w f q m A B C D a b c d ch le tr W) (ho : W'.heap[f]? = some (MC m' A' B' C' D')) (hm : Mod (fun k => k = f) W W') : LS w f q m' A' B' C' D' a b c d ch le tr W' :=
  ⟨ho, hm.keeps h.tgt (by have := h.fq; omega), hm.keeps h.pose (by have := h.fq; omega), bl_mod h.below hm (by have := h.fq; have := h.base; omega), h.fq, h.base⟩
theorem LS.cells {w : World} {f q : Nat} {m A B C D a b c d ch le : Int} {tr : Bool} {W : World} (h : LS w f q m A B C D a b c d ch le tr W) :
    W.cell? ⟨q, 0, none⟩ = some (.int .i64 a) ∧ W.cell? ⟨q, 1, none⟩ = some (.int .i64 b) ∧ W.cell? ⟨q, 2, none⟩ = some (.int .i64 c) ∧ W.cell? ⟨q, 3, none⟩ = some (.int .i64 d) ∧
    W.cell? ⟨q + 1, 0, none⟩ = some (.int .i64 ch) ∧ W.cell? ⟨q + 1, 1, none⟩ = some (.int .i64 le) ∧ W.cell? ⟨q + 1, 2, none⟩ = some (.bool tr) ∧ q + 1 < W.heap.size :=
  ⟨cell_of (i := 0) h.tgt rfl, cell_of (i := 1) h.tgt rfl, cell_of (i := 2) h.tgt rfl, cell_of (i := 3) h.tgt rfl, cell_of (i := 0) h.pose rfl, cell_of (i := 1) h.pose rfl, cell_of (i := 2) h.pose rfl, lt_of_obj h.pose⟩
set_option maxHeartbeats 1600000 in
theorem loads_at (r a b c d ch le : Int) (tr : Bool) (n1 m1 n2 m2 A2 B2 C2 D2 : Int) (w : World) (hq : ∀ x ∈ [a, b, c, d], -9223372036854775808 ≤ x ∧ x ≤ 9223372036854775807)
    (h1 : askErr 0 1 a b c d ch le tr = n1) (o1 : askObj 0 0 0 0 0 1 a b c d ch le tr = MC m1 0 0 0 0)
    (h2 : askErr m1 2 a b c d ch le tr = n2) (o2 : askObj m1 0 0 0 0 2 a b c d ch le tr = MC m2 A2 B2 C2 D2)
    (h3 : askErr m2 0 a b c d ch le tr = 0) (o3 : askObj m2 A2 B2 C2 D2 0 a b c d ch le tr = MC 0 A2 B2 C2 D2)
    (b1 b2 br : Bool) (e1 : (n1 == 0) = b1) (q1 : allowB m1 (-1) = b1) (e2 : (n2 == 0) = b2) (q2 : (b2 && !allowB m2 r) = false) (er : decide (8 ≤ r) = br) (qr : allowB 0 r = br) :
    Calls Try.prog 7 #[.int .i64 r, .agg #[.int .i64 a, .int .i64 b, .int .i64 c, .int .i64 d], .agg #[.int .i64 ch, .int .i64 le, .bool tr]] w fun e w' => e = .returned (.bool true) ∧ Below w.heap.size w w' := by
  have H1 := Lib.hid h1; have O1 := Lib.hid o1; have H2 := Lib.hid h2; have O2 := Lib.hid o2; have H3 := Lib.hid h3; have O3 := Lib.hid o3
  have Q1 := Lib.hid q1; have Q2 := Lib.hid q2; have QR := Lib.hid qr; have HQ := Lib.hid hq
  clear h1 o1 h2 o2 h3 o3 q1 q2 qr hq
  rcases b1 <;> rcases b2 <;> rcases br
  all_goals
    go_enter Try.func7, Try.ntmps7
    go_wp2_with (fail)
    obtain ⟨w0, hw0⟩ : ∃ w0, w0 = (w.alloc (.cells #[.int .i64 a, .int .i64 b, .int .i64 c, .int .i64 d] 28)).alloc (.cells #[.int .i64 ch, .int .i64 le, .bool tr] 32) := ⟨_, rfl⟩
    have L0 : Hid (w0.heap[w.heap.size]? = some (.cells #[.int .i64 a, .int .i64 b, .int .i64 c, .int .i64 d] 28) ∧ w0.heap[w.heap.size + 1]? = some (.cells #[.int .i64 ch, .int .i64 le, .bool tr] 32) ∧ Below w.heap.size w w0) := Lib.hid (by
      rw [hw0]; exact ⟨hp_old (hp_new w _) _, by simpa using hp_new (w.alloc _) _, bl_alloc (bl_alloc (Below.refl _ _) _) _⟩)
    rw [← hw0]
    clear hw0
    refine (shown_any _).mono ?_
    rintro e w1 ⟨rfl, hb1⟩
    have M1 : Hid (w1.heap[w.heap.size]? = some (.cells #[.int .i64 a, .int .i64 b, .int .i64 c, .int .i64 d] 28) ∧ w1.heap[w.heap.size + 1]? = some (.cells #[.int .i64 ch, .int .i64 le, .bool tr] 32) ∧ Below w.heap.size w w1) := Lib.hid
      ⟨below_keeps hb1 L0.out.1 (lt_of_obj L0.out.1), below_keeps hb1 L0.out.2.1 (lt_of_obj L0.out.2.1), bl_step L0.out.2.2 hb1⟩
    clear hb1
    go_wp2_with (fail)
    refine (new_any _).mono ?_
    rintro e w2 ⟨rfl, hw2⟩
    obtain ⟨f, hf⟩ : ∃ f, w1.heap.size = f := ⟨_, rfl⟩
    have S2 : Hid (LS w f w.heap.size 0 0 0 0 0 a b c d ch le tr w2) := Lib.hid (by
      rw [hw2, ← hf]
      exact ⟨hp_new w1 _, hp_old M1.out.1 _, hp_old M1.out.2.1 _, bl_alloc M1.out.2.2 _, lt_of_obj M1.out.2.1, Nat.le_refl _⟩)
    rw [hf]
    clear hw2 hf
    go_wp2_with (fail)
    refine (allows_any f r 0 0 0 0 0 _ S2.out.obj).mono ?_
    rintro e _ ⟨rfl, rfl⟩
    rw [QR.out]
    obtain ⟨t0, t1, t2, t3, t4, t5, t6, t7⟩ := S2.out.cells
    go_wp2_with (fail)
    refine (ask_as S2.out.obj HQ.out H1.out O1.out).mono ?_
    rintro e w3 ⟨rfl, ho, hm⟩
    have S3 := Lib.hid (S2.out.step ho hm)
    clear ho hm t0 t1 t2 t3 t4 t5 t6 t7 S2
    obtain ⟨t0, t1, t2, t3, t4, t5, t6, t7⟩ := S3.out.cells
    go_wp2_with (fail)
    refine (allows_any f (-1) m1 0 0 0 0 _ S3.out.obj).mono ?_
    rintro e _ ⟨rfl, rfl⟩
    rw [Q1.out]
    go_wp2_with (fail)
    refine (ask_as S3.out.obj HQ.out H2.out O2.out).mono ?_
    rintro e w4 ⟨rfl, ho, hm⟩
    have S4 := Lib.hid (S3.out.step ho hm)
    clear ho hm t0 t1 t2 t3 t4 t5 t6 t7 S3
    obtain ⟨t0, t1, t2, t3, t4, t5, t6, t7⟩ := S4.out.cells
    go_wp2_with (go_at_call 15; refine (allows_any f r m2 A2 B2 C2 D2 _ S4.out.obj).mono ?_; rintro e _ ⟨rfl, rfl⟩; rw [show allowB m2 r = true by simpa using Q2.out])
    refine (ask_as S4.out.obj HQ.out H3.out O3.out).mono ?_
    rintro e w5 ⟨rfl, ho, hm⟩
    have S5 := Lib.hid (S4.out.step ho hm)
    clear ho hm t0 t1 t2 t3 t4 t5 t6 t7 S4
    go_wp2_with (fail)
    refine (allows_any f r 0 A2 B2 C2 D2 _ S5.out.obj).mono ?_
    rintro e _ ⟨rfl, rfl⟩
    rw [QR.out]
    go_wp2_with (fail)
    go_ret
    exact ⟨rfl, S5.out.below⟩
theorem ModesLoads_walk (a0 : Int) (a1_0 : Int) (a1_1 : Int) (a1_2 : Int) (a1_3 : Int) (a2_0 : Int) (a2_1 : Int) (a2_2 : Bool) (w : World) (w0 : (Lit.int .i64 a0).wf = true) (w1_0 : (Lit.int .i64 a1_0).wf = true) (w1_1 : (Lit.int .i64 a1_1).wf = true) (w1_2 : (Lit.int .i64 a1_2).wf = true) (w1_3 : (Lit.int .i64 a1_3).wf = true) (w2_0 : (Lit.int .i64 a2_0).wf = true) (w2_1 : (Lit.int .i64 a2_1).wf = true) :
    Calls Try.prog 7 #[.int .i64 a0, .agg #[.int .i64 a1_0, .int .i64 a1_1, .int .i64 a1_2, .int .i64 a1_3], .agg #[.int .i64 a2_0, .int .i64 a2_1, .bool a2_2]] w fun e w' => e = .returned (.bool true) ∧ Below w.heap.size w w' := by
  have hq : ∀ x ∈ [a1_0, a1_1, a1_2, a1_3], -9223372036854775808 ≤ x ∧ x ≤ 9223372036854775807 := by
    intro x hx
    simp only [List.mem_cons, List.not_mem_nil, or_false] at hx
    rcases hx with rfl | rfl | rfl | rfl
    · exact wf64 w1_0
    · exact wf64 w1_1
    · exact wf64 w1_2
    · exact wf64 w1_3
  rcases hg : goodB a2_0 a2_1 a2_2
  · rcases hv : qv [a1_0, a1_1, a1_2, a1_3]
    · exact loads_at a0 _ _ _ _ _ _ _ 360 0 2 0 0 0 0 0 w hq (by simp [askErr, hg, hv]) (by simp [askObj, askErr, hg, hv]) (by simp [askErr, hg, hv]) (by simp [askObj, askErr, hg, hv]) (by simp [askErr, hg, hv]) (by simp [askObj, askErr, hg, hv]) false false _ rfl (by simp [allowB]) rfl rfl rfl (by simp [allowB])
    · exact loads_at a0 _ _ _ _ _ _ _ 360 0 360 0 0 0 0 0 w hq (by simp [askErr, hg, hv]) (by simp [askObj, askErr, hg, hv]) (by simp [askErr, hg, hv]) (by simp [askObj, askErr, hg, hv]) (by simp [askErr, hg, hv]) (by simp [askObj, askErr, hg, hv]) false false _ rfl (by simp [allowB]) rfl rfl rfl (by simp [allowB])
  · rcases hv : qv [a1_0, a1_1, a1_2, a1_3]
    · exact loads_at a0 _ _ _ _ _ _ _ 0 1 2 1 0 0 0 0 w hq (by simp [askErr, hg, hv]) (by simp [askObj, askErr, hg, hv]) (by simp [askErr, hg, hv]) (by simp [askObj, askErr, hg, hv]) (by simp [askErr, hg, hv]) (by simp [askObj, askErr, hg, hv]) true false _ rfl (by simp [allowB]) rfl rfl rfl (by simp [allowB])
    · exact loads_at a0 _ _ _ _ _ _ _ 0 1 0 2 _ _ _ _ w hq (by simp [askErr, hg, hv]) (by simp [askObj, askErr, hg, hv]) (by simp [askErr, hg, hv]) (by simp [askObj, askErr, hg, hv]; rfl) (by simp [askErr, hg, hv]) (by simp [askObj, askErr, hg, hv]) true true _ rfl (by simp [allowB]) rfl (by simp [allowB]) rfl (by simp [allowB])
end Go.Proofs.Ytfjhlgmdkkdooaa
