/-
  No cell of these rows narrows 'for every input' (looked for: loops, veiled, ifaces, maps, wideKeys, modest, calm, conditions, laid).
  DERIVED. THE GIVEN ROWS OF THIS SEAT. 6 by the template 'for every input the law returns true; each argument reads behind the call as it read before'; 0 by the template 'total and deterministic' (their statements: YtjeaccpocpfkgaaTotals.lean).
  GIVEN WITH THE SEED: the statements are not yours to turn. If you find one false, say at which input.
  Laid BY PROGRAM, IN A SANDBOX (cutbox-rows.mjs): the forced cells as the released guide's own fill.sh prints them over the translation 4be1652ace6933cd… (all of the seat's roots in one cut). By AI agents, Wed Nov 11 2026. No macro, syntax, notation, axiom, sorry.
-/
import Derived.Test.YtjeaccpocpfkgaaChecked
import GoSem.Claim
import GoSem.ClaimJoined
import GoSem.ClaimMapViews
import Derived.JoinedTies
import Derived.KernelRfl
namespace Go.Proofs.Ytjeaccpocpfkgaa
/- THE CELL 'sum', in the pinned program and in every row, IS THE sha256 OF THE DUMP (.gsa) THAT YtjeaccpocpfkgaaProg.lean LOADS. Nothing in Lean hashes anything: it is a label: what it is worth is what the hold of that sum in a sandbox is worth. -/
noncomputable def Try.pinned : Pinned := { name := "ytjeaccpocpfkgaa", sum := "4be1652ace6933cd7e6684122fae11d77250e655f192f78c8930b0f247c888a3", checked := Try.checked }
namespace Rows
def none {H : Type} : Left H := { results := [], args := [] }

/-- 'perigeelaw02.FieldsReads': WHATEVER THE INPUT: true; the input reads as it did. -/
def fieldsReadsSpec : ChangeSpec := { name := "fieldsReads", fn := fun _ => fun
  | [d1, d2, d3] => { results := [.lit (.bool true)], args := [d1, d2, d3] }
  | _ => none }
def fieldsReadsRow : OpenClaim := { program := "ytjeaccpocpfkgaa", sum := "4be1652ace6933cd7e6684122fae11d77250e655f192f78c8930b0f247c888a3", func := "perigee/perigeelaw02.FieldsReads", spec := "fieldsReads", unfollowed := true, recurses := true, apart := false }
def FieldsReadsSaid : Prop := fieldsReadsRow.holds Try.pinned (OpenSpec.ofChange fieldsReadsSpec)

/-- ITS FALSE NEIGHBOUR: 'it returns false'. Refute it at one input. -/
def fieldsReadsWrong : ChangeSpec := { name := "fieldsReads", fn := fun _ => fun
  | [d1, d2, d3] => { results := [.lit (.bool false)], args := [d1, d2, d3] }
  | _ => none }
def FieldsReadsWrongFalsely : Prop := fieldsReadsRow.holds Try.pinned (OpenSpec.ofChange fieldsReadsWrong)

/-- 'perigeelaw02.FieldsPuts': WHATEVER THE INPUT: true; the input reads as it did. -/
def fieldsPutsSpec : ChangeSpec := { name := "fieldsPuts", fn := fun _ => fun
  | [d] => { results := [.lit (.bool true)], args := [d] }
  | _ => none }
def fieldsPutsRow : OpenClaim := { program := "ytjeaccpocpfkgaa", sum := "4be1652ace6933cd7e6684122fae11d77250e655f192f78c8930b0f247c888a3", func := "perigee/perigeelaw02.FieldsPuts", spec := "fieldsPuts", unfollowed := true, recurses := true, apart := false }
def FieldsPutsSaid : Prop := fieldsPutsRow.holds Try.pinned (OpenSpec.ofChange fieldsPutsSpec)

/-- ITS FALSE NEIGHBOUR: 'it returns false'. Refute it at one input. -/
def fieldsPutsWrong : ChangeSpec := { name := "fieldsPuts", fn := fun _ => fun
  | [d] => { results := [.lit (.bool false)], args := [d] }
  | _ => none }
def FieldsPutsWrongFalsely : Prop := fieldsPutsRow.holds Try.pinned (OpenSpec.ofChange fieldsPutsWrong)

/-- 'perigeelaw02.FieldsKeeps': WHATEVER THE INPUT: true; the input reads as it did. -/
def fieldsKeepsSpec : ChangeSpec := { name := "fieldsKeeps", fn := fun _ => fun
  | [d1, d2] => { results := [.lit (.bool true)], args := [d1, d2] }
  | _ => none }
def fieldsKeepsRow : OpenClaim := { program := "ytjeaccpocpfkgaa", sum := "4be1652ace6933cd7e6684122fae11d77250e655f192f78c8930b0f247c888a3", func := "perigee/perigeelaw02.FieldsKeeps", spec := "fieldsKeeps", unfollowed := true, recurses := true, apart := false }
def FieldsKeepsSaid : Prop := fieldsKeepsRow.holds Try.pinned (OpenSpec.ofChange fieldsKeepsSpec)

/-- ITS FALSE NEIGHBOUR: 'it returns false'. Refute it at one input. -/
def fieldsKeepsWrong : ChangeSpec := { name := "fieldsKeeps", fn := fun _ => fun
  | [d1, d2] => { results := [.lit (.bool false)], args := [d1, d2] }
  | _ => none }
def FieldsKeepsWrongFalsely : Prop := fieldsKeepsRow.holds Try.pinned (OpenSpec.ofChange fieldsKeepsWrong)

/-- 'perigeelaw02.FieldsDistance': WHATEVER THE INPUT: true; the input reads as it did. -/
def fieldsDistanceSpec : ChangeSpec := { name := "fieldsDistance", fn := fun _ => fun
  | [d1, d2, d3] => { results := [.lit (.bool true)], args := [d1, d2, d3] }
  | _ => none }
def fieldsDistanceRow : OpenClaim := { program := "ytjeaccpocpfkgaa", sum := "4be1652ace6933cd7e6684122fae11d77250e655f192f78c8930b0f247c888a3", func := "perigee/perigeelaw02.FieldsDistance", spec := "fieldsDistance", unfollowed := true, recurses := true, apart := false }
def FieldsDistanceSaid : Prop := fieldsDistanceRow.holds Try.pinned (OpenSpec.ofChange fieldsDistanceSpec)

/-- ITS FALSE NEIGHBOUR: 'it returns false'. Refute it at one input. -/
def fieldsDistanceWrong : ChangeSpec := { name := "fieldsDistance", fn := fun _ => fun
  | [d1, d2, d3] => { results := [.lit (.bool false)], args := [d1, d2, d3] }
  | _ => none }
def FieldsDistanceWrongFalsely : Prop := fieldsDistanceRow.holds Try.pinned (OpenSpec.ofChange fieldsDistanceWrong)

/-- 'perigeelaw02.FieldsPacks': WHATEVER THE INPUT: true; the input reads as it did. -/
def fieldsPacksSpec : ChangeSpec := { name := "fieldsPacks", fn := fun _ => fun
  | [d1, d2, d3] => { results := [.lit (.bool true)], args := [d1, d2, d3] }
  | _ => none }
def fieldsPacksRow : OpenClaim := { program := "ytjeaccpocpfkgaa", sum := "4be1652ace6933cd7e6684122fae11d77250e655f192f78c8930b0f247c888a3", func := "perigee/perigeelaw02.FieldsPacks", spec := "fieldsPacks", unfollowed := true, recurses := true, apart := false }
def FieldsPacksSaid : Prop := fieldsPacksRow.holds Try.pinned (OpenSpec.ofChange fieldsPacksSpec)

/-- ITS FALSE NEIGHBOUR: 'it returns false'. Refute it at one input. -/
def fieldsPacksWrong : ChangeSpec := { name := "fieldsPacks", fn := fun _ => fun
  | [d1, d2, d3] => { results := [.lit (.bool false)], args := [d1, d2, d3] }
  | _ => none }
def FieldsPacksWrongFalsely : Prop := fieldsPacksRow.holds Try.pinned (OpenSpec.ofChange fieldsPacksWrong)

/-- 'perigeelaw02.FieldsRound': WHATEVER THE INPUT: true; the input reads as it did. -/
def fieldsRoundSpec : ChangeSpec := { name := "fieldsRound", fn := fun _ => fun
  | [d1, d2, d3] => { results := [.lit (.bool true)], args := [d1, d2, d3] }
  | _ => none }
def fieldsRoundRow : OpenClaim := { program := "ytjeaccpocpfkgaa", sum := "4be1652ace6933cd7e6684122fae11d77250e655f192f78c8930b0f247c888a3", func := "perigee/perigeelaw02.FieldsRound", spec := "fieldsRound", unfollowed := true, recurses := true, apart := false }
def FieldsRoundSaid : Prop := fieldsRoundRow.holds Try.pinned (OpenSpec.ofChange fieldsRoundSpec)

/-- ITS FALSE NEIGHBOUR: 'it returns false'. Refute it at one input. -/
def fieldsRoundWrong : ChangeSpec := { name := "fieldsRound", fn := fun _ => fun
  | [d1, d2, d3] => { results := [.lit (.bool false)], args := [d1, d2, d3] }
  | _ => none }
def FieldsRoundWrongFalsely : Prop := fieldsRoundRow.holds Try.pinned (OpenSpec.ofChange fieldsRoundWrong)

/- THE SECOND FORM. 'bulk': how many values and letters a reading holds, each counted each time it is reached (what is shared counts as often as it is met; a slice's spare places count too). A statement '..UptoSaid' is the law's where the arguments, and the package variables that the reading takes, are together of bulk at most 1048576: NARROWER than '..Said'. Prove '..Said' where nothing that the law and all that it calls make is longer than what came in: it says more and counts as full. Else prove '..UptoSaid'. A law counts once. -/
mutual
def uptoBulk {H : Type} : DataW H → Nat
  | .lit (.string bytes) => bytes.length + 1
  | .lit _ => 1
  | .nil => 1
  | .ptr d => uptoBulk d + 1
  | .slice elems spare => uptoBulkAll elems + uptoBulkAll spare + 1
  | .agg parts => uptoBulkAll parts + 1
  | .iface _ d => uptoBulk d + 1
  | .map entries => uptoBulkEntries entries + 1
  | .held _ => 1
def uptoBulkAll {H : Type} : List (DataW H) → Nat
  | [] => 0
  | d :: r => uptoBulk d + uptoBulkAll r
def uptoBulkEntries {H : Type} : List (Lit × DataW H) → Nat
  | [] => 0
  | x :: r => uptoBulkEntry x + uptoBulkEntries r
def uptoBulkEntry {H : Type} : Lit × DataW H → Nat
  | (.string bytes, d) => bytes.length + uptoBulk d + 1
  | (_, d) => uptoBulk d + 1
 end
def uptoSmall : (H : Type) → List (DataW H) → Bool := fun _ ds => decide (uptoBulkAll ds ≤ 1048576)
def OpenSpec.upto (s : _root_.Go.ChangeSpec) : _root_.Go.OpenSpec := { _root_.Go.OpenSpec.ofChange s with cond := some uptoSmall }

/-- 'perigeelaw02.FieldsReads', WHERE WHAT IT READS IS OF BULK AT MOST 1048576: true; the input reads as it did. -/
def fieldsReadsUptoRow : OpenClaim := { program := "ytjeaccpocpfkgaa", sum := "4be1652ace6933cd7e6684122fae11d77250e655f192f78c8930b0f247c888a3", func := "perigee/perigeelaw02.FieldsReads", spec := "fieldsReads", unfollowed := true, recurses := true, apart := false, narrowed := true }
def FieldsReadsUptoSaid : Prop := fieldsReadsUptoRow.holds Try.pinned (OpenSpec.upto fieldsReadsSpec)

/-- 'perigeelaw02.FieldsPuts', WHERE WHAT IT READS IS OF BULK AT MOST 1048576: true; the input reads as it did. -/
def fieldsPutsUptoRow : OpenClaim := { program := "ytjeaccpocpfkgaa", sum := "4be1652ace6933cd7e6684122fae11d77250e655f192f78c8930b0f247c888a3", func := "perigee/perigeelaw02.FieldsPuts", spec := "fieldsPuts", unfollowed := true, recurses := true, apart := false, narrowed := true }
def FieldsPutsUptoSaid : Prop := fieldsPutsUptoRow.holds Try.pinned (OpenSpec.upto fieldsPutsSpec)

/-- 'perigeelaw02.FieldsKeeps', WHERE WHAT IT READS IS OF BULK AT MOST 1048576: true; the input reads as it did. -/
def fieldsKeepsUptoRow : OpenClaim := { program := "ytjeaccpocpfkgaa", sum := "4be1652ace6933cd7e6684122fae11d77250e655f192f78c8930b0f247c888a3", func := "perigee/perigeelaw02.FieldsKeeps", spec := "fieldsKeeps", unfollowed := true, recurses := true, apart := false, narrowed := true }
def FieldsKeepsUptoSaid : Prop := fieldsKeepsUptoRow.holds Try.pinned (OpenSpec.upto fieldsKeepsSpec)

/-- 'perigeelaw02.FieldsDistance', WHERE WHAT IT READS IS OF BULK AT MOST 1048576: true; the input reads as it did. -/
def fieldsDistanceUptoRow : OpenClaim := { program := "ytjeaccpocpfkgaa", sum := "4be1652ace6933cd7e6684122fae11d77250e655f192f78c8930b0f247c888a3", func := "perigee/perigeelaw02.FieldsDistance", spec := "fieldsDistance", unfollowed := true, recurses := true, apart := false, narrowed := true }
def FieldsDistanceUptoSaid : Prop := fieldsDistanceUptoRow.holds Try.pinned (OpenSpec.upto fieldsDistanceSpec)

/-- 'perigeelaw02.FieldsPacks', WHERE WHAT IT READS IS OF BULK AT MOST 1048576: true; the input reads as it did. -/
def fieldsPacksUptoRow : OpenClaim := { program := "ytjeaccpocpfkgaa", sum := "4be1652ace6933cd7e6684122fae11d77250e655f192f78c8930b0f247c888a3", func := "perigee/perigeelaw02.FieldsPacks", spec := "fieldsPacks", unfollowed := true, recurses := true, apart := false, narrowed := true }
def FieldsPacksUptoSaid : Prop := fieldsPacksUptoRow.holds Try.pinned (OpenSpec.upto fieldsPacksSpec)

/-- 'perigeelaw02.FieldsRound', WHERE WHAT IT READS IS OF BULK AT MOST 1048576: true; the input reads as it did. -/
def fieldsRoundUptoRow : OpenClaim := { program := "ytjeaccpocpfkgaa", sum := "4be1652ace6933cd7e6684122fae11d77250e655f192f78c8930b0f247c888a3", func := "perigee/perigeelaw02.FieldsRound", spec := "fieldsRound", unfollowed := true, recurses := true, apart := false, narrowed := true }
def FieldsRoundUptoSaid : Prop := fieldsRoundUptoRow.holds Try.pinned (OpenSpec.upto fieldsRoundSpec)

end Rows
end Go.Proofs.Ytjeaccpocpfkgaa
