/-
  The walk of the law on Lasts. Conditions: none.
-/
import Derived.Test.YtbdobcmblbojfaaShnb
namespace Go.Proofs.Ytbdobcmblbojfaa
open Go.RowKit Kit Go.Shelf
set_option linter.unusedVariables false
/-- The frame of a law on a battery and loads. -/
structure PW (w : World) (B : Nat) (x0 x1 x2 x3 x4 : Int) (a : Option Addr) (n c : Nat) (l : List Ld) (W : World) : Prop where
  bt : W.heap[B]? = some (.cells #[.int .i64 x0, .int .i64 x1, .int .i64 x2, .int .i64 x3, .int .i64 x4] 23 (0, 0))
  ld : Lds W a n c l
  bl : Below w.heap.size w W
theorem PW.step {w W W' : World} {B : Nat} {x0 x1 x2 x3 x4 : Int} {a : Option Addr} {n c : Nat} {l : List Ld} (h : PW w B x0 x1 x2 x3 x4 a n c l W) (hb : Below W.heap.size W W') : PW w B x0 x1 x2 x3 x4 a n c l W' :=
  ⟨below_keeps hb h.bt (lt_of_obj h.bt), h.ld.below hb, bl_step h.bl hb⟩
theorem PW.new {w : World} {x0 x1 x2 x3 x4 : Int} {a : Option Addr} {n c : Nat} {l : List Ld} (h : Lds w a n c l) : PW w w.heap.size x0 x1 x2 x3 x4 a n c l (w.alloc (.cells #[.int .i64 x0, .int .i64 x1, .int .i64 x2, .int .i64 x3, .int .i64 x4] 23)) :=
  ⟨hp_new _ _, h.below (bl_alloc (Below.refl _ _) _), bl_alloc (Below.refl _ _) _⟩
theorem PW.cells {w W : World} {B : Nat} {x0 x1 x2 x3 x4 : Int} {a : Option Addr} {n c : Nat} {l : List Ld} (h : PW w B x0 x1 x2 x3 x4 a n c l W) :
    W.cell? ⟨B, 0, none⟩ = some (.int .i64 x0) ∧ W.cell? ⟨B, 1, none⟩ = some (.int .i64 x1) ∧ W.cell? ⟨B, 2, none⟩ = some (.int .i64 x2) ∧ W.cell? ⟨B, 3, none⟩ = some (.int .i64 x3) ∧ W.cell? ⟨B, 4, none⟩ = some (.int .i64 x4) ∧ B < W.heap.size :=
  ⟨cell_of (i := 0) h.bt rfl, cell_of (i := 1) h.bt rfl, cell_of (i := 2) h.bt rfl, cell_of (i := 3) h.bt rfl, cell_of (i := 4) h.bt rfl, lt_of_obj h.bt⟩
set_option maxRecDepth 100000 in
set_option maxHeartbeats 3200000 in
theorem PowerLasts_walk (a0_0 : Int) (a0_1 : Int) (a0_2 : Int) (a0_3 : Int) (a0_4 : Int) (a1 : Value) (w : World) (w0_0 : (Lit.int .i64 a0_0).wf = true) (w0_1 : (Lit.int .i64 a0_1).wf = true) (w0_2 : (Lit.int .i64 a0_2).wf = true) (w0_3 : (Lit.int .i64 a0_3).wf = true) (w0_4 : (Lit.int .i64 a0_4).wf = true) (w1 : Kit.SlIn [.inl .i64, .inl .i64, .inr false] w a1) :
    Calls Try.prog 5 #[.agg #[.int .i64 a0_0, .int .i64 a0_1, .int .i64 a0_2, .int .i64 a0_3, .int .i64 a0_4], a1] w fun e w' => e = .returned (.bool true) ∧ Below w.heap.size w w' := by
  obtain ⟨a, n, c, l, rfl, hL, _, hz⟩ := slIn_lds w1
  have HL := Lib.hid hL
  have N1 := Lib.hid hL.1
  have hcap := hL.2.1
  have hcap2 := hL.2.2.1
  unfold maxLen at hcap2
  have hq0 : Below w.heap.size w (w.alloc (.cells #[.int .i64 a0_0, .int .i64 a0_1, .int .i64 a0_2, .int .i64 a0_3, .int .i64 a0_4] 23)) := bl_alloc (Below.refl _ _) _
  have Q0 := Lib.hid hq0
  by_cases h1 : n ≤ 1000
  · have LE := Lib.hid (fun W h => lend_any l a n c W h h1 hz)
    have A := Lib.hid (fun W q qc h => lasts_any a0_0 a0_1 a0_2 a0_3 a0_4 l q n qc W h (by omega))
    have B := Lib.hid (fun W h => reflasts_any a0_0 a0_1 a0_2 a0_3 a0_4 l a n c W h (by omega))
    have KE := Lib.hid (fun base W v hk h => kept_any base l a v n c W hk h h1)
    unfold batV at A B
    generalize lasN a0_0 a0_1 a0_2 a0_3 a0_4 l = x at A B
    generalize chkE a0_0 a0_1 a0_2 a0_3 a0_4 l = y at A B
    have P0 := Lib.hid (PW.new (x0 := a0_0) (x1 := a0_1) (x2 := a0_2) (x3 := a0_3) (x4 := a0_4) hL)
    have hxx : (x == x) = true := by simp
    have hyy : (y == y) = true := by simp
    clear hL hz w1 hq0 w0_0 w0_1 w0_2 w0_3 w0_4
    go_enter Try.func5, Try.ntmps5
    go_wp2_with (fail)
    refine (shown_any _).mono ?_
    rintro e W1 ⟨rfl, b1⟩
    have P1 := Lib.hid (P0.out.step b1)
    clear b1 P0
    go_wp2_with (fail)
    refine (LE.out _ P1.out.ld).mono ?_
    rintro e W2 ⟨v, rfl, hk, b2⟩
    obtain ⟨g, cap, rfl, hg, _, _⟩ := hk.lds N1.out
    have P2 := Lib.hid (P1.out.step b2)
    have K2 := Lib.hid hk
    have G2 := Lib.hid hg
    clear b2 P1 hk hg
    obtain ⟨c0, c1, c2, c3, c4, cl⟩ := P2.out.cells
    go_wp2_with (fail)
    refine (A.out _ _ _ G2.out).mono ?_
    rintro e W3 ⟨rfl, b3⟩
    have P3 := Lib.hid (P2.out.step b3)
    have K3 := Lib.hid (K2.out.calm b3)
    clear b3 P2 K2 G2 c0 c1 c2 c3 c4 cl
    obtain ⟨c0, c1, c2, c3, c4, cl⟩ := P3.out.cells
    go_wp2_with (fail)
    refine (B.out _ P3.out.ld).mono ?_
    rintro e W4 ⟨rfl, b4⟩
    have P4 := Lib.hid (P3.out.step b4)
    have K4 := Lib.hid (K3.out.calm b4)
    clear b4 P3 K3 c0 c1 c2 c3 c4 cl
    go_wp2_with (fail)
    refine (KE.out _ _ _ K4.out P4.out.ld).mono ?_
    rintro e W5 ⟨rfl, b5⟩
    have P5 := Lib.hid (P4.out.step b5)
    clear b5 P4 K4
    go_wp2_with (fail)
    go_ret
    exact ⟨rfl, P5.out.bl⟩
  · have hl : (1000 : Int) < (n : Int) := by omega
    clear hL hz w1 hq0 w0_0 w0_1 w0_2 w0_3 w0_4
    go_enter Try.func5, Try.ntmps5
    go_wp2_with (fail)
    refine (shown_any _).mono ?_
    rintro e W1 ⟨rfl, b1⟩
    have B1 := Lib.hid (bl_step Q0.out b1)
    clear b1
    go_wp2_with (fail)
    go_ret
    exact ⟨rfl, B1.out⟩
end Go.Proofs.Ytbdobcmblbojfaa
