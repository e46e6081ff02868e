/-
  No cell of these rows narrows 'for every input' (looked for: loops, veiled, ifaces, maps, wideKeys, modest, calm, conditions, laid).
  DERIVED. THE GIVEN ROWS OF THIS SEAT. 7 by the template 'for every input the law returns true; each argument reads behind the call as it read before'; 0 by the template 'total and deterministic' (their statements: YtcmmjikkoebboaaTotals.lean).
  GIVEN WITH THE SEED: the statements are not yours to turn. If you find one false, say at which input.
  Laid BY PROGRAM, IN A SANDBOX (cutbox-rows.mjs): the forced cells as the released guide's own fill.sh prints them over the translation cd3330b5b0f239ed… (all of the seat's roots in one cut). By AI agents, Wed Nov 11 2026. No macro, syntax, notation, axiom, sorry.
-/
import Derived.Test.YtcmmjikkoebboaaChecked
import GoSem.Claim
import GoSem.ClaimJoined
import GoSem.ClaimMapViews
import Derived.JoinedTies
import Derived.KernelRfl
namespace Go.Proofs.Ytcmmjikkoebboaa
/- THE CELL 'sum', in the pinned program and in every row, IS THE sha256 OF THE DUMP (.gsa) THAT YtcmmjikkoebboaaProg.lean LOADS. Nothing in Lean hashes anything: it is a label: what it is worth is what the hold of that sum in a sandbox is worth. -/
noncomputable def Try.pinned : Pinned := { name := "ytcmmjikkoebboaa", sum := "cd3330b5b0f239ed442a3a3c4f42cf682a9e34193dc5200e1f5de1abbe31f0f1", checked := Try.checked }
namespace Rows
def none {H : Type} : Left H := { results := [], args := [] }

/-- 'perigeelaw22.WheelsAllocates': WHATEVER THE INPUT: true; the input reads as it did. -/
def wheelsAllocatesSpec : ChangeSpec := { name := "wheelsAllocates", fn := fun _ => fun
  | [d1, d2] => { results := [.lit (.bool true)], args := [d1, d2] }
  | _ => none }
def wheelsAllocatesRow : OpenClaim := { program := "ytcmmjikkoebboaa", sum := "cd3330b5b0f239ed442a3a3c4f42cf682a9e34193dc5200e1f5de1abbe31f0f1", func := "perigee/perigeelaw22.WheelsAllocates", spec := "wheelsAllocates", apart := false }
def WheelsAllocatesSaid : Prop := wheelsAllocatesRow.holds Try.pinned (OpenSpec.ofChange wheelsAllocatesSpec)

/-- ITS FALSE NEIGHBOUR: 'it returns false'. Refute it at one input. -/
def wheelsAllocatesWrong : ChangeSpec := { name := "wheelsAllocates", fn := fun _ => fun
  | [d1, d2] => { results := [.lit (.bool false)], args := [d1, d2] }
  | _ => none }
def WheelsAllocatesWrongFalsely : Prop := wheelsAllocatesRow.holds Try.pinned (OpenSpec.ofChange wheelsAllocatesWrong)

/-- 'perigeelaw22.WheelsLeast': WHATEVER THE INPUT: true; the input reads as it did. -/
def wheelsLeastSpec : ChangeSpec := { name := "wheelsLeast", fn := fun _ => fun
  | [d1, d2, d3] => { results := [.lit (.bool true)], args := [d1, d2, d3] }
  | _ => none }
def wheelsLeastRow : OpenClaim := { program := "ytcmmjikkoebboaa", sum := "cd3330b5b0f239ed442a3a3c4f42cf682a9e34193dc5200e1f5de1abbe31f0f1", func := "perigee/perigeelaw22.WheelsLeast", spec := "wheelsLeast", apart := false }
def WheelsLeastSaid : Prop := wheelsLeastRow.holds Try.pinned (OpenSpec.ofChange wheelsLeastSpec)

/-- ITS FALSE NEIGHBOUR: 'it returns false'. Refute it at one input. -/
def wheelsLeastWrong : ChangeSpec := { name := "wheelsLeast", fn := fun _ => fun
  | [d1, d2, d3] => { results := [.lit (.bool false)], args := [d1, d2, d3] }
  | _ => none }
def WheelsLeastWrongFalsely : Prop := wheelsLeastRow.holds Try.pinned (OpenSpec.ofChange wheelsLeastWrong)

/-- 'perigeelaw22.WheelsSteady': WHATEVER THE INPUT: true; the input reads as it did. -/
def wheelsSteadySpec : ChangeSpec := { name := "wheelsSteady", fn := fun _ => fun
  | [d1, d2, d3] => { results := [.lit (.bool true)], args := [d1, d2, d3] }
  | _ => none }
def wheelsSteadyRow : OpenClaim := { program := "ytcmmjikkoebboaa", sum := "cd3330b5b0f239ed442a3a3c4f42cf682a9e34193dc5200e1f5de1abbe31f0f1", func := "perigee/perigeelaw22.WheelsSteady", spec := "wheelsSteady", apart := false }
def WheelsSteadySaid : Prop := wheelsSteadyRow.holds Try.pinned (OpenSpec.ofChange wheelsSteadySpec)

/-- ITS FALSE NEIGHBOUR: 'it returns false'. Refute it at one input. -/
def wheelsSteadyWrong : ChangeSpec := { name := "wheelsSteady", fn := fun _ => fun
  | [d1, d2, d3] => { results := [.lit (.bool false)], args := [d1, d2, d3] }
  | _ => none }
def WheelsSteadyWrongFalsely : Prop := wheelsSteadyRow.holds Try.pinned (OpenSpec.ofChange wheelsSteadyWrong)

/-- 'perigeelaw22.WheelsReach': WHATEVER THE INPUT: true; the input reads as it did. -/
def wheelsReachSpec : ChangeSpec := { name := "wheelsReach", fn := fun _ => fun
  | [d1, d2, d3] => { results := [.lit (.bool true)], args := [d1, d2, d3] }
  | _ => none }
def wheelsReachRow : OpenClaim := { program := "ytcmmjikkoebboaa", sum := "cd3330b5b0f239ed442a3a3c4f42cf682a9e34193dc5200e1f5de1abbe31f0f1", func := "perigee/perigeelaw22.WheelsReach", spec := "wheelsReach", apart := false }
def WheelsReachSaid : Prop := wheelsReachRow.holds Try.pinned (OpenSpec.ofChange wheelsReachSpec)

/-- ITS FALSE NEIGHBOUR: 'it returns false'. Refute it at one input. -/
def wheelsReachWrong : ChangeSpec := { name := "wheelsReach", fn := fun _ => fun
  | [d1, d2, d3] => { results := [.lit (.bool false)], args := [d1, d2, d3] }
  | _ => none }
def WheelsReachWrongFalsely : Prop := wheelsReachRow.holds Try.pinned (OpenSpec.ofChange wheelsReachWrong)

/-- 'perigeelaw22.WheelsPlays': WHATEVER THE INPUT: true; the input reads as it did. -/
def wheelsPlaysSpec : ChangeSpec := { name := "wheelsPlays", fn := fun _ => fun
  | [d1, d2, d3] => { results := [.lit (.bool true)], args := [d1, d2, d3] }
  | _ => none }
def wheelsPlaysRow : OpenClaim := { program := "ytcmmjikkoebboaa", sum := "cd3330b5b0f239ed442a3a3c4f42cf682a9e34193dc5200e1f5de1abbe31f0f1", func := "perigee/perigeelaw22.WheelsPlays", spec := "wheelsPlays", recurses := true, apart := false }
def WheelsPlaysSaid : Prop := wheelsPlaysRow.holds Try.pinned (OpenSpec.ofChange wheelsPlaysSpec)

/-- ITS FALSE NEIGHBOUR: 'it returns false'. Refute it at one input. -/
def wheelsPlaysWrong : ChangeSpec := { name := "wheelsPlays", fn := fun _ => fun
  | [d1, d2, d3] => { results := [.lit (.bool false)], args := [d1, d2, d3] }
  | _ => none }
def WheelsPlaysWrongFalsely : Prop := wheelsPlaysRow.holds Try.pinned (OpenSpec.ofChange wheelsPlaysWrong)

/-- 'perigeelaw22.WheelsNone': WHATEVER THE INPUT: true; the input reads as it did. -/
def wheelsNoneSpec : ChangeSpec := { name := "wheelsNone", fn := fun _ => fun
  | [d1, d2] => { results := [.lit (.bool true)], args := [d1, d2] }
  | _ => none }
def wheelsNoneRow : OpenClaim := { program := "ytcmmjikkoebboaa", sum := "cd3330b5b0f239ed442a3a3c4f42cf682a9e34193dc5200e1f5de1abbe31f0f1", func := "perigee/perigeelaw22.WheelsNone", spec := "wheelsNone", apart := false }
def WheelsNoneSaid : Prop := wheelsNoneRow.holds Try.pinned (OpenSpec.ofChange wheelsNoneSpec)

/-- ITS FALSE NEIGHBOUR: 'it returns false'. Refute it at one input. -/
def wheelsNoneWrong : ChangeSpec := { name := "wheelsNone", fn := fun _ => fun
  | [d1, d2] => { results := [.lit (.bool false)], args := [d1, d2] }
  | _ => none }
def WheelsNoneWrongFalsely : Prop := wheelsNoneRow.holds Try.pinned (OpenSpec.ofChange wheelsNoneWrong)

/-- 'perigeelaw22.WheelsKnown': WHATEVER THE INPUT: true; the input reads as it did. -/
def wheelsKnownSpec : ChangeSpec := { name := "wheelsKnown", fn := fun _ => fun
  | [] => { results := [.lit (.bool true)], args := [] }
  | _ => none }
def wheelsKnownRow : OpenClaim := { program := "ytcmmjikkoebboaa", sum := "cd3330b5b0f239ed442a3a3c4f42cf682a9e34193dc5200e1f5de1abbe31f0f1", func := "perigee/perigeelaw22.WheelsKnown", spec := "wheelsKnown", apart := false }
def WheelsKnownSaid : Prop := wheelsKnownRow.holds Try.pinned (OpenSpec.ofChange wheelsKnownSpec)

/-- ITS FALSE NEIGHBOUR: 'it returns false'. Refute it at one input. -/
def wheelsKnownWrong : ChangeSpec := { name := "wheelsKnown", fn := fun _ => fun
  | [] => { results := [.lit (.bool false)], args := [] }
  | _ => none }
def WheelsKnownWrongFalsely : Prop := wheelsKnownRow.holds Try.pinned (OpenSpec.ofChange wheelsKnownWrong)

/- THE SECOND FORM. 'bulk': how many values and letters a reading holds, each counted each time it is reached (what is shared counts as often as it is met; a slice's spare places count too). A statement '..UptoSaid' is the law's where the arguments, and the package variables that the reading takes, are together of bulk at most 1048576: NARROWER than '..Said'. Prove '..Said' where nothing that the law and all that it calls make is longer than what came in: it says more and counts as full. Else prove '..UptoSaid'. A law counts once. -/
mutual
def uptoBulk {H : Type} : DataW H → Nat
  | .lit (.string bytes) => bytes.length + 1
  | .lit _ => 1
  | .nil => 1
  | .ptr d => uptoBulk d + 1
  | .slice elems spare => uptoBulkAll elems + uptoBulkAll spare + 1
  | .agg parts => uptoBulkAll parts + 1
  | .iface _ d => uptoBulk d + 1
  | .map entries => uptoBulkEntries entries + 1
  | .held _ => 1
def uptoBulkAll {H : Type} : List (DataW H) → Nat
  | [] => 0
  | d :: r => uptoBulk d + uptoBulkAll r
def uptoBulkEntries {H : Type} : List (Lit × DataW H) → Nat
  | [] => 0
  | x :: r => uptoBulkEntry x + uptoBulkEntries r
def uptoBulkEntry {H : Type} : Lit × DataW H → Nat
  | (.string bytes, d) => bytes.length + uptoBulk d + 1
  | (_, d) => uptoBulk d + 1
 end
def uptoSmall : (H : Type) → List (DataW H) → Bool := fun _ ds => decide (uptoBulkAll ds ≤ 1048576)
def OpenSpec.upto (s : _root_.Go.ChangeSpec) : _root_.Go.OpenSpec := { _root_.Go.OpenSpec.ofChange s with cond := some uptoSmall }

/-- 'perigeelaw22.WheelsAllocates', WHERE WHAT IT READS IS OF BULK AT MOST 1048576: true; the input reads as it did. -/
def wheelsAllocatesUptoRow : OpenClaim := { program := "ytcmmjikkoebboaa", sum := "cd3330b5b0f239ed442a3a3c4f42cf682a9e34193dc5200e1f5de1abbe31f0f1", func := "perigee/perigeelaw22.WheelsAllocates", spec := "wheelsAllocates", apart := false, narrowed := true }
def WheelsAllocatesUptoSaid : Prop := wheelsAllocatesUptoRow.holds Try.pinned (OpenSpec.upto wheelsAllocatesSpec)

/-- 'perigeelaw22.WheelsLeast', WHERE WHAT IT READS IS OF BULK AT MOST 1048576: true; the input reads as it did. -/
def wheelsLeastUptoRow : OpenClaim := { program := "ytcmmjikkoebboaa", sum := "cd3330b5b0f239ed442a3a3c4f42cf682a9e34193dc5200e1f5de1abbe31f0f1", func := "perigee/perigeelaw22.WheelsLeast", spec := "wheelsLeast", apart := false, narrowed := true }
def WheelsLeastUptoSaid : Prop := wheelsLeastUptoRow.holds Try.pinned (OpenSpec.upto wheelsLeastSpec)

/-- 'perigeelaw22.WheelsSteady', WHERE WHAT IT READS IS OF BULK AT MOST 1048576: true; the input reads as it did. -/
def wheelsSteadyUptoRow : OpenClaim := { program := "ytcmmjikkoebboaa", sum := "cd3330b5b0f239ed442a3a3c4f42cf682a9e34193dc5200e1f5de1abbe31f0f1", func := "perigee/perigeelaw22.WheelsSteady", spec := "wheelsSteady", apart := false, narrowed := true }
def WheelsSteadyUptoSaid : Prop := wheelsSteadyUptoRow.holds Try.pinned (OpenSpec.upto wheelsSteadySpec)

/-- 'perigeelaw22.WheelsReach', WHERE WHAT IT READS IS OF BULK AT MOST 1048576: true; the input reads as it did. -/
def wheelsReachUptoRow : OpenClaim := { program := "ytcmmjikkoebboaa", sum := "cd3330b5b0f239ed442a3a3c4f42cf682a9e34193dc5200e1f5de1abbe31f0f1", func := "perigee/perigeelaw22.WheelsReach", spec := "wheelsReach", apart := false, narrowed := true }
def WheelsReachUptoSaid : Prop := wheelsReachUptoRow.holds Try.pinned (OpenSpec.upto wheelsReachSpec)

/-- 'perigeelaw22.WheelsPlays', WHERE WHAT IT READS IS OF BULK AT MOST 1048576: true; the input reads as it did. -/
def wheelsPlaysUptoRow : OpenClaim := { program := "ytcmmjikkoebboaa", sum := "cd3330b5b0f239ed442a3a3c4f42cf682a9e34193dc5200e1f5de1abbe31f0f1", func := "perigee/perigeelaw22.WheelsPlays", spec := "wheelsPlays", recurses := true, apart := false, narrowed := true }
def WheelsPlaysUptoSaid : Prop := wheelsPlaysUptoRow.holds Try.pinned (OpenSpec.upto wheelsPlaysSpec)

/-- 'perigeelaw22.WheelsNone', WHERE WHAT IT READS IS OF BULK AT MOST 1048576: true; the input reads as it did. -/
def wheelsNoneUptoRow : OpenClaim := { program := "ytcmmjikkoebboaa", sum := "cd3330b5b0f239ed442a3a3c4f42cf682a9e34193dc5200e1f5de1abbe31f0f1", func := "perigee/perigeelaw22.WheelsNone", spec := "wheelsNone", apart := false, narrowed := true }
def WheelsNoneUptoSaid : Prop := wheelsNoneUptoRow.holds Try.pinned (OpenSpec.upto wheelsNoneSpec)

/-- 'perigeelaw22.WheelsKnown', WHERE WHAT IT READS IS OF BULK AT MOST 1048576: true; the input reads as it did. -/
def wheelsKnownUptoRow : OpenClaim := { program := "ytcmmjikkoebboaa", sum := "cd3330b5b0f239ed442a3a3c4f42cf682a9e34193dc5200e1f5de1abbe31f0f1", func := "perigee/perigeelaw22.WheelsKnown", spec := "wheelsKnown", apart := false, narrowed := true }
def WheelsKnownUptoSaid : Prop := wheelsKnownUptoRow.holds Try.pinned (OpenSpec.upto wheelsKnownSpec)

end Rows
end Go.Proofs.Ytcmmjikkoebboaa
