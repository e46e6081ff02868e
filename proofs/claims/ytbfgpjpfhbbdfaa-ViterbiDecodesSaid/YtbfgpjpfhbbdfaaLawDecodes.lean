/-
  The walk of the law ViterbiDecodes. Conditions: none beyond arguments that can be read.
-/
import Derived.Test.YtbfgpjpfhbbdfaaDecAll
namespace Go.Proofs.Ytbfgpjpfhbbdfaa
open Go.RowKit Kit
set_option linter.unusedVariables false
theorem toList_self' (a : ByteArray) : (a.toList == a.toList) = true := by simp
set_option maxRecDepth 100000 in
set_option maxHeartbeats 1600000 in
theorem ViterbiDecodes_walk (a0 : Value) (a1 : Int) (w : World) (w0 : Kit.SlIn [.inl .i64] w a0) (w1 : (Lit.int .i64 a1).wf = true) :
    Calls Try.prog 3 #[a0, .int .i64 a1] w fun e w' => e = .returned (.bool true) ∧ Below w.heap.size w w' := by
  obtain ⟨a, n, c, X, rfl, hX, hz⟩ := slIn_ns w0
  have AW := Lib.hid awake_any
  clear w0 w1
  by_cases h1 : 500 < n
  · have d1 : decide ((500 : Int) < (n : Int)) = true := by simp; omega
    clear h1 hX hz
    go_enter Try.func3, Try.ntmps3
    go_wp2_with (fail)
    refine (AW.out _).mono ?_
    rintro e w3 ⟨rfl, hb⟩
    have HB := Lib.hid hb
    clear hb
    go_wp2_with (fail)
    go_ret
    exact ⟨rfl, HB.out⟩
  have d1 : decide ((500 : Int) < (n : Int)) = false := by simp; omega
  have hn : n ≤ 1000 := by omega
  obtain ⟨S, v, er, H1, H2⟩ := dec_both X n a1
  have D1 := Lib.hid H1; have D2 := Lib.hid H2
  have LE := Lib.hid (lend_any X a n c w hX hn hz)
  have HX := Lib.hid hX
  have st := toList_self' S
  clear h1 hX hz H1 H2
  go_enter Try.func3, Try.ntmps3
  go_wp2_with (fail)
  refine LE.out.mono ?_
  rintro e w3 ⟨own, rfl, hL, b3⟩
  have B3 := Lib.hid b3
  have HX3 := Lib.hid (HX.out.below b3)
  obtain ⟨a', c', rfl, hN⟩ := hL.ns HX.out.1
  have HL := Lib.hid hL
  have HN := Lib.hid hN
  clear hL hN b3 LE
  go_wp2_with (fail)
  refine (D1.out a' c' w3 HN.out).mono ?_
  rintro e w4 ⟨rfl, b4⟩
  have B4 := Lib.hid b4
  have HX4 := Lib.hid (HX3.out.below b4)
  clear b4 D1
  go_wp2_with (fail)
  refine (D2.out a c w4 HX4.out).mono ?_
  rintro e w5 ⟨rfl, b5⟩
  have B5 := Lib.hid (bl_step B4.out b5)
  have HX5 := Lib.hid (HX4.out.below b5)
  clear b5 D2
  have KA := Lib.hid (kept_any w.heap.size X a _ n c w5 (HL.out.calm B5.out) HX5.out hn)
  go_wp2_with (fail)
  refine KA.out.mono ?_
  rintro e w6 ⟨rfl, b6⟩
  have B6 := Lib.hid (bl_step B3.out (bl_step B5.out b6))
  clear b6
  go_wp2_with (fail)
  refine (AW.out _).mono ?_
  rintro e w7 ⟨rfl, b7⟩
  have B7 := Lib.hid (bl_step B6.out b7)
  clear b7
  go_wp2_with (fail)
  go_ret
  exact ⟨rfl, B7.out⟩
end Go.Proofs.Ytbfgpjpfhbbdfaa
