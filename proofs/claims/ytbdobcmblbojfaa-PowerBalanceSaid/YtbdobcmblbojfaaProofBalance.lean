/-
  The row of the law PowerBalance out of its walk: for every input the call returns true and leaves what was there as it was. Conditions: none.
-/
import Derived.Test.YtbdobcmblbojfaaRows
import Derived.Test.YtbdobcmblbojfaaLawBalance
namespace Go.Proofs.Ytbdobcmblbojfaa.powerBalance
open Go.ChangeShapes Go.WideShapes Go.ChangeAt Go.RowKit
set_option linter.unusedVariables false
theorem own : ownKnob Try.prog.godebug = none := by kernel_rfl
theorem laidOut : laidOutB Try.prog = true := by kernel_rfl
theorem contract {H : Type} {enc : TypeId × Value → H} (W : World) (base : Nat) (args : Array Value) (ds : List (DataW H)) (p : List MemPlace)
    (hval : ∀ (j : Nat) t v, Try.f6.params[j]? = some t → args[j]? = some v → Value.okWide Try.prog W .any base t v)
    (hA : DataW.TrodAll enc Try.prog W 0 (fun _ => true) true Try.f6.params.toList args.toList ds p) :
    Calls Try.prog 6 args W fun e W' => e = .returned (.bool true) ∧ Below W.heap.size W W' := by
  rw [Try.params6] at hA hval
  obtain ⟨v0, vs0, d0, ds0, p0, q0, hargs, rfl, rfl, h0, r0⟩ := trodAll_cons hA
  obtain ⟨v1, vs1, d1, ds1, p1, q1, rfl, rfl, rfl, h1, r1⟩ := trodAll_cons r0
  obtain ⟨v2, vs2, d2, ds2, p2, q2, rfl, rfl, rfl, h2, r2⟩ := trodAll_cons r1
  obtain ⟨rfl, rfl, rfl⟩ := trodAll_nil r2
  obtain rfl : args = #[v0, v1, v2] := by cases args; simp_all
  obtain ⟨c0, rfl, s0⟩ := Kit.open_flat (ks := [.inl .i64, .inl .i64, .inl .i64, .inl .i64, .inl .i64]) (by kernel_rfl) (by kernel_rfl) (hval 0 23 _ rfl rfl) h0
  obtain ⟨a0_0, c0, rfl, w0_0, s0⟩ := Kit.scAll_int s0
  obtain ⟨a0_1, c0, rfl, w0_1, s0⟩ := Kit.scAll_int s0
  obtain ⟨a0_2, c0, rfl, w0_2, s0⟩ := Kit.scAll_int s0
  obtain ⟨a0_3, c0, rfl, w0_3, s0⟩ := Kit.scAll_int s0
  obtain ⟨a0_4, c0, rfl, w0_4, s0⟩ := Kit.scAll_int s0
  obtain rfl := Kit.scAll_nil s0
  have w1 := Kit.open_flat_slice (ks := [.inl .i64]) Try.underlying40 (by kernel_rfl) (by kernel_rfl) (by decide) (hval 1 40 _ rfl rfl) h1
  have w2 := Kit.open_flat_slice (ks := [.inl .i64, .inl .i64, .inr false]) Try.underlying24 (by kernel_rfl) (by kernel_rfl) (by decide) (hval 2 24 _ rfl rfl) h2
  exact PowerBalance_walk a0_0 a0_1 a0_2 a0_3 a0_4 v1 v2 W w0_0 w0_1 w0_2 w0_3 w0_4 w1 w2
set_option maxRecDepth 100000 in
theorem lifted (os : Os) (started : os.Started) (H : Type) (enc : TypeId × Value → H) :
    ReturnsInHanded {} Try.checked os 6 .any (Rows.powerBalanceSpec.pre6 enc Try.prog Try.f6 Rows.powerBalanceRow.domain false) (Rows.powerBalanceSpec.post enc Try.prog Try.f6 false true false false) := by
  refine returnsInHanded_of_change (C := Try.checked) own started (by kernel_rfl) Try.func6
    (ChangeSpec.witness6 (enc := enc) (C := Try.checked) false ⟨#[], #[.agg #[.int .i64 0, .int .i64 0, .int .i64 0, .int .i64 0, .int .i64 0], .slice none 0 0, .slice none 0 0], []⟩ 8 (by kernel_rfl) (by kernel_rfl) (by kernel_rfl) (by kernel_rfl)) ?_
  intro W base args ds gs before hval hW _ _
  exact (Kit.law_post rfl (fun ds h => by match ds, h with | [d0, d1, d2], _ => rfl) rfl Try.underlying4 laidOut (of_decide_eq_true (by kernel_rfl)) hW (fun p hA => contract W base args ds p hval hA))
theorem over : Rows.powerBalanceRow.holds Try.pinned (OpenSpec.ofChange Rows.powerBalanceSpec) :=
  OpenClaim.holds_of_wide 6 Try.f6 rfl rfl rfl rfl rfl rfl rfl ⟨rfl, rfl, rfl, rfl, rfl⟩ rfl rfl rfl rfl rfl (by kernel_rfl) Try.func6 (by kernel_rfl)
    (of_decide_eq_true (by kernel_rfl)) (by unfold Func.isWrapper; rw [if_neg (of_decide_eq_false (by kernel_rfl))]; exact ⟨rfl, rfl⟩)
    (fun os started H enc _ => lifted os started H enc)
theorem proved : Rows.PowerBalanceSaid := over
#print axioms proved
end Go.Proofs.Ytbdobcmblbojfaa.powerBalance
