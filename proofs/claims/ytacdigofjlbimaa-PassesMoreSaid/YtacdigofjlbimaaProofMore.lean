/-
  The row of the law PassesMore out of its walk: for every input the call returns true and leaves what was there as it was. Conditions: none.
-/
import Derived.Test.YtacdigofjlbimaaRows
import Derived.Test.YtacdigofjlbimaaLawMore
namespace Go.Proofs.Ytacdigofjlbimaa.passesMore
open Go.ChangeShapes Go.WideShapes Go.ChangeAt Go.RowKit
set_option linter.unusedVariables false
theorem own : ownKnob Try.prog.godebug = none := by kernel_rfl
theorem laidOut : laidOutB Try.prog = true := by kernel_rfl
theorem contract {H : Type} {enc : TypeId × Value → H} (W : World) (base : Nat) (args : Array Value) (ds : List (DataW H)) (p : List MemPlace)
    (hval : ∀ (j : Nat) t v, Try.f6.params[j]? = some t → args[j]? = some v → Value.okWide Try.prog W .any base t v)
    (hA : DataW.TrodAll enc Try.prog W 0 (fun _ => true) true Try.f6.params.toList args.toList ds p) :
    Calls Try.prog 6 args W fun e W' => e = .returned (.bool true) ∧ Below W.heap.size W W' := by
  rw [Try.params6] at hA hval
  obtain ⟨v0, vs0, d0, ds0, p0, q0, hargs, rfl, rfl, h0, r0⟩ := trodAll_cons hA
  obtain ⟨v1, vs1, d1, ds1, p1, q1, rfl, rfl, rfl, h1, r1⟩ := trodAll_cons r0
  obtain ⟨v2, vs2, d2, ds2, p2, q2, rfl, rfl, rfl, h2, r2⟩ := trodAll_cons r1
  obtain ⟨rfl, rfl, rfl⟩ := trodAll_nil r2
  obtain rfl : args = #[v0, v1, v2] := by cases args; simp_all
  have w0 := Kit.open_flat_slice (ks := [.inl .i64, .inl .i64, .inl .i64, .inl .i64, .inl .i64]) Try.underlying22 (by kernel_rfl) (by kernel_rfl) (by decide) (hval 0 22 _ rfl rfl) h0
  obtain ⟨c1, rfl, s1⟩ := Kit.open_flat (ks := [.inl .i64, .inl .i64, .inl .i64, .inl .i64, .inl .i64]) (by kernel_rfl) (by kernel_rfl) (hval 1 39 _ rfl rfl) h1
  obtain ⟨a1_0, c1, rfl, w1_0, s1⟩ := Kit.scAll_int s1
  obtain ⟨a1_1, c1, rfl, w1_1, s1⟩ := Kit.scAll_int s1
  obtain ⟨a1_2, c1, rfl, w1_2, s1⟩ := Kit.scAll_int s1
  obtain ⟨a1_3, c1, rfl, w1_3, s1⟩ := Kit.scAll_int s1
  obtain ⟨a1_4, c1, rfl, w1_4, s1⟩ := Kit.scAll_int s1
  obtain rfl := Kit.scAll_nil s1
  obtain ⟨c2, rfl, s2⟩ := Kit.open_flat (ks := [.inl .i64, .inl .i64, .inl .i64, .inl .i64, .inl .i64, .inl .i64]) (by kernel_rfl) (by kernel_rfl) (hval 2 44 _ rfl rfl) h2
  obtain ⟨a2_0, c2, rfl, w2_0, s2⟩ := Kit.scAll_int s2
  obtain ⟨a2_1, c2, rfl, w2_1, s2⟩ := Kit.scAll_int s2
  obtain ⟨a2_2, c2, rfl, w2_2, s2⟩ := Kit.scAll_int s2
  obtain ⟨a2_3, c2, rfl, w2_3, s2⟩ := Kit.scAll_int s2
  obtain ⟨a2_4, c2, rfl, w2_4, s2⟩ := Kit.scAll_int s2
  obtain ⟨a2_5, c2, rfl, w2_5, s2⟩ := Kit.scAll_int s2
  obtain rfl := Kit.scAll_nil s2
  exact PassesMore_walk v0 a1_0 a1_1 a1_2 a1_3 a1_4 a2_0 a2_1 a2_2 a2_3 a2_4 a2_5 W w0 w1_0 w1_1 w1_2 w1_3 w1_4 w2_0 w2_1 w2_2 w2_3 w2_4 w2_5
set_option maxRecDepth 100000 in
theorem lifted (os : Os) (started : os.Started) (H : Type) (enc : TypeId × Value → H) :
    ReturnsInHanded {} Try.checked os 6 .any (Rows.passesMoreSpec.pre6 enc Try.prog Try.f6 Rows.passesMoreRow.domain false) (Rows.passesMoreSpec.post enc Try.prog Try.f6 false true false false) := by
  refine returnsInHanded_of_change (C := Try.checked) own started (by kernel_rfl) Try.func6
    (ChangeSpec.witness6 (enc := enc) (C := Try.checked) false ⟨#[], #[.slice none 0 0, .agg #[.int .i64 0, .int .i64 0, .int .i64 0, .int .i64 0, .int .i64 0], .agg #[.int .i64 0, .int .i64 0, .int .i64 0, .int .i64 0, .int .i64 0, .int .i64 0]], []⟩ 8 (by kernel_rfl) (by kernel_rfl) (by kernel_rfl) (by kernel_rfl)) ?_
  intro W base args ds gs before hval hW _ _
  exact (Kit.law_post rfl (fun ds h => by match ds, h with | [d0, d1, d2], _ => rfl) rfl Try.underlying4 laidOut (of_decide_eq_true (by kernel_rfl)) hW (fun p hA => contract W base args ds p hval hA))
theorem over : Rows.passesMoreRow.holds Try.pinned (OpenSpec.ofChange Rows.passesMoreSpec) :=
  OpenClaim.holds_of_wide 6 Try.f6 rfl rfl rfl rfl rfl rfl rfl ⟨rfl, rfl, rfl, rfl, rfl⟩ rfl rfl rfl rfl rfl (by kernel_rfl) Try.func6 (by kernel_rfl)
    (of_decide_eq_true (by kernel_rfl)) (by unfold Func.isWrapper; rw [if_neg (of_decide_eq_false (by kernel_rfl))]; exact ⟨rfl, rfl⟩)
    (fun os started H enc _ => lifted os started H enc)
theorem proved : Rows.PassesMoreSaid := over
#print axioms proved
end Go.Proofs.Ytacdigofjlbimaa.passesMore
