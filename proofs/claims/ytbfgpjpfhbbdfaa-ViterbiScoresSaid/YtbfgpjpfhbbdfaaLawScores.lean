/-
  The walk of the law ViterbiScores. Conditions: none beyond arguments that can be read.
-/
import Derived.Test.YtbfgpjpfhbbdfaaScoreAll
import Derived.Test.YtbfgpjpfhbbdfaaAwk
namespace Go.Proofs.Ytbfgpjpfhbbdfaa
open Go.RowKit Kit
set_option linter.unusedVariables false
set_option maxRecDepth 100000 in
set_option maxHeartbeats 1600000 in
theorem ViterbiScores_walk (a0 : Value) (a1 : ByteArray) (a2 : ByteArray) (w : World) (w0 : Kit.SlIn [.inl .i64] w a0) (w1 : a1.size ≤ maxLen) (w2 : a2.size ≤ maxLen) :
    Calls Try.prog 4 #[a0, .string a1, .string a2] w fun e w' => e = .returned (.bool true) ∧ Below w.heap.size w w' := by
  obtain ⟨a, n, c, X, rfl, hX, _⟩ := slIn_ns w0
  have AW := Lib.hid awake_any
  clear w0 w1 w2
  by_cases h1 : 2000 < n
  · have d1 : decide ((2000 : Int) < (n : Int)) = true := by simp; omega
    clear h1 hX
    go_enter Try.func4, Try.ntmps4
    go_wp2_with (fail)
    refine (AW.out _).mono ?_
    rintro e w3 ⟨rfl, hb⟩
    have HB := Lib.hid hb
    clear hb
    go_wp2_with (fail)
    go_ret
    exact ⟨rfl, HB.out⟩
  have d1 : decide ((2000 : Int) < (n : Int)) = false := by simp; omega
  by_cases h2 : 1200 < a1.size
  · have d2 : decide ((1200 : Int) < (a1.size : Int)) = true := by simp; omega
    clear h1 h2 hX
    go_enter Try.func4, Try.ntmps4
    go_wp2_with (fail)
    refine (AW.out _).mono ?_
    rintro e w3 ⟨rfl, hb⟩
    have HB := Lib.hid hb
    clear hb
    go_wp2_with (fail)
    go_ret
    exact ⟨rfl, HB.out⟩
  have d2 : decide ((1200 : Int) < (a1.size : Int)) = false := by simp; omega
  by_cases h3 : 2000 < a2.size
  · have d3 : decide ((2000 : Int) < (a2.size : Int)) = true := by simp; omega
    clear h1 h2 h3 hX
    go_enter Try.func4, Try.ntmps4
    go_wp2_with (fail)
    refine (AW.out _).mono ?_
    rintro e w3 ⟨rfl, hb⟩
    have HB := Lib.hid hb
    clear hb
    go_wp2_with (fail)
    go_ret
    exact ⟨rfl, HB.out⟩
  have d3 : decide ((2000 : Int) < (a2.size : Int)) = false := by simp; omega
  have S1 := Lib.hid (fun w (h : NS w a n c X) => score_all a1 X a n c w h)
  have S2 := Lib.hid (fun w (h : NS w a n c X) => rscore_all a1 X a n c w h)
  have F1 := Lib.hid (soften_r a2 (by omega))
  have F2 := Lib.hid (rsoften_r a2 (by omega))
  generalize scV a1 X n = r at S1 S2
  obtain ⟨r1, r2⟩ := r
  have HX := Lib.hid hX
  clear h1 h2 h3 hX
  go_enter Try.func4, Try.ntmps4
  go_wp2_with (fail)
  refine (S1.out w HX.out).mono ?_
  rintro e w3 ⟨rfl, b3⟩
  have B3 := Lib.hid b3
  clear b3
  go_wp2_with (fail)
  refine (S2.out w3 (HX.out.below B3.out)).mono ?_
  rintro e w4 ⟨rfl, b4⟩
  have B4 := Lib.hid (bl_step B3.out b4)
  clear b4 B3 S1 S2 HX
  go_wp2_with (fail)
  refine (F1.out w4).mono ?_
  rintro e w5 ⟨⟨a5, n5, c5, rfl, l5, h5⟩, b5⟩
  have B5 := Lib.hid (bl_step B4.out b5)
  have H5 := Lib.hid h5
  clear b5 B4 h5
  go_wp2_with (fail)
  refine (F2.out w5).mono ?_
  rintro e w6 ⟨⟨a6, n6, c6, rfl, l6, h6⟩, b6⟩
  have SE := Lib.hid (sameints_any _ _ a5 a6 n5 n6 c5 c6 w6 (H5.out.below b6) h6 l5 l6)
  rw [decide_eq_true rfl] at SE
  have B6 := Lib.hid (bl_step B5.out b6)
  generalize symE a2 = er
  clear b6 B5 h6 H5 F1 F2 l5 l6
  go_wp2_with (fail)
  refine SE.out.mono ?_
  rintro e w7 ⟨rfl, q, rfl⟩
  go_wp2_with (fail)
  refine (AW.out _).mono ?_
  rintro e w8 ⟨rfl, hb⟩
  have B8 := Lib.hid (bl_step (below_drewN B6.out q) hb)
  clear hb
  go_wp2_with (fail)
  go_ret
  exact ⟨rfl, B8.out⟩
end Go.Proofs.Ytbfgpjpfhbbdfaa
