/-
  No cell of these rows narrows 'for every input' (looked for: loops, veiled, ifaces, maps, wideKeys, modest, calm, conditions, laid).
  DERIVED. THE GIVEN ROWS OF THIS SEAT. 6 by the template 'for every input the law returns true; each argument reads behind the call as it read before'; 0 by the template 'total and deterministic' (their statements: YtacdigofjlbimaaTotals.lean).
  GIVEN WITH THE SEED: the statements are not yours to turn. If you find one false, say at which input.
  Laid BY PROGRAM, IN A SANDBOX (cutbox-rows.mjs): the forced cells as the released guide's own fill.sh prints them over the translation bda7f334b800b3fe… (all of the seat's roots in one cut). By AI agents, Wed Nov 11 2026. No macro, syntax, notation, axiom, sorry.
-/
import Derived.Test.YtacdigofjlbimaaChecked
import GoSem.Claim
import GoSem.ClaimJoined
import GoSem.ClaimMapViews
import Derived.JoinedTies
import Derived.KernelRfl
namespace Go.Proofs.Ytacdigofjlbimaa
/- THE CELL 'sum', in the pinned program and in every row, IS THE sha256 OF THE DUMP (.gsa) THAT YtacdigofjlbimaaProg.lean LOADS. Nothing in Lean hashes anything: it is a label: what it is worth is what the hold of that sum in a sandbox is worth. -/
noncomputable def Try.pinned : Pinned := { name := "ytacdigofjlbimaa", sum := "bda7f334b800b3fe1d2a55cbed1db7fe584c85825acd0b96877ab060fcdbae50", checked := Try.checked }
namespace Rows
def none {H : Type} : Left H := { results := [], args := [] }

/-- 'perigeelaw42.PassesBest': WHATEVER THE INPUT: true; the input reads as it did. -/
def passesBestSpec : ChangeSpec := { name := "passesBest", fn := fun _ => fun
  | [d1, d2] => { results := [.lit (.bool true)], args := [d1, d2] }
  | _ => none }
def passesBestRow : OpenClaim := { program := "ytacdigofjlbimaa", sum := "bda7f334b800b3fe1d2a55cbed1db7fe584c85825acd0b96877ab060fcdbae50", func := "perigee/perigeelaw42.PassesBest", spec := "passesBest", recurses := true, plainKeys := false, apart := false }
def PassesBestSaid : Prop := passesBestRow.holds Try.pinned (OpenSpec.ofChange passesBestSpec)

/-- ITS FALSE NEIGHBOUR: 'it returns false'. Refute it at one input. -/
def passesBestWrong : ChangeSpec := { name := "passesBest", fn := fun _ => fun
  | [d1, d2] => { results := [.lit (.bool false)], args := [d1, d2] }
  | _ => none }
def PassesBestWrongFalsely : Prop := passesBestRow.holds Try.pinned (OpenSpec.ofChange passesBestWrong)

/-- 'perigeelaw42.PassesPlans': WHATEVER THE INPUT: true; the input reads as it did. -/
def passesPlansSpec : ChangeSpec := { name := "passesPlans", fn := fun _ => fun
  | [d1, d2, d3] => { results := [.lit (.bool true)], args := [d1, d2, d3] }
  | _ => none }
def passesPlansRow : OpenClaim := { program := "ytacdigofjlbimaa", sum := "bda7f334b800b3fe1d2a55cbed1db7fe584c85825acd0b96877ab060fcdbae50", func := "perigee/perigeelaw42.PassesPlans", spec := "passesPlans", recurses := true, plainKeys := false, apart := false }
def PassesPlansSaid : Prop := passesPlansRow.holds Try.pinned (OpenSpec.ofChange passesPlansSpec)

/-- ITS FALSE NEIGHBOUR: 'it returns false'. Refute it at one input. -/
def passesPlansWrong : ChangeSpec := { name := "passesPlans", fn := fun _ => fun
  | [d1, d2, d3] => { results := [.lit (.bool false)], args := [d1, d2, d3] }
  | _ => none }
def PassesPlansWrongFalsely : Prop := passesPlansRow.holds Try.pinned (OpenSpec.ofChange passesPlansWrong)

/-- 'perigeelaw42.PassesGreatest': WHATEVER THE INPUT: true; the input reads as it did. -/
def passesGreatestSpec : ChangeSpec := { name := "passesGreatest", fn := fun _ => fun
  | [d1, d2, d3] => { results := [.lit (.bool true)], args := [d1, d2, d3] }
  | _ => none }
def passesGreatestRow : OpenClaim := { program := "ytacdigofjlbimaa", sum := "bda7f334b800b3fe1d2a55cbed1db7fe584c85825acd0b96877ab060fcdbae50", func := "perigee/perigeelaw42.PassesGreatest", spec := "passesGreatest", recurses := true, plainKeys := false, apart := false }
def PassesGreatestSaid : Prop := passesGreatestRow.holds Try.pinned (OpenSpec.ofChange passesGreatestSpec)

/-- ITS FALSE NEIGHBOUR: 'it returns false'. Refute it at one input. -/
def passesGreatestWrong : ChangeSpec := { name := "passesGreatest", fn := fun _ => fun
  | [d1, d2, d3] => { results := [.lit (.bool false)], args := [d1, d2, d3] }
  | _ => none }
def PassesGreatestWrongFalsely : Prop := passesGreatestRow.holds Try.pinned (OpenSpec.ofChange passesGreatestWrong)

/-- 'perigeelaw42.PassesMore': WHATEVER THE INPUT: true; the input reads as it did. -/
def passesMoreSpec : ChangeSpec := { name := "passesMore", fn := fun _ => fun
  | [d1, d2, d3] => { results := [.lit (.bool true)], args := [d1, d2, d3] }
  | _ => none }
def passesMoreRow : OpenClaim := { program := "ytacdigofjlbimaa", sum := "bda7f334b800b3fe1d2a55cbed1db7fe584c85825acd0b96877ab060fcdbae50", func := "perigee/perigeelaw42.PassesMore", spec := "passesMore", recurses := true, plainKeys := false, apart := false }
def PassesMoreSaid : Prop := passesMoreRow.holds Try.pinned (OpenSpec.ofChange passesMoreSpec)

/-- ITS FALSE NEIGHBOUR: 'it returns false'. Refute it at one input. -/
def passesMoreWrong : ChangeSpec := { name := "passesMore", fn := fun _ => fun
  | [d1, d2, d3] => { results := [.lit (.bool false)], args := [d1, d2, d3] }
  | _ => none }
def PassesMoreWrongFalsely : Prop := passesMoreRow.holds Try.pinned (OpenSpec.ofChange passesMoreWrong)

/-- 'perigeelaw42.PassesMoved': WHATEVER THE INPUT: true; the input reads as it did. -/
def passesMovedSpec : ChangeSpec := { name := "passesMoved", fn := fun _ => fun
  | [d1, d2, d3] => { results := [.lit (.bool true)], args := [d1, d2, d3] }
  | _ => none }
def passesMovedRow : OpenClaim := { program := "ytacdigofjlbimaa", sum := "bda7f334b800b3fe1d2a55cbed1db7fe584c85825acd0b96877ab060fcdbae50", func := "perigee/perigeelaw42.PassesMoved", spec := "passesMoved", recurses := true, plainKeys := false, apart := false }
def PassesMovedSaid : Prop := passesMovedRow.holds Try.pinned (OpenSpec.ofChange passesMovedSpec)

/-- ITS FALSE NEIGHBOUR: 'it returns false'. Refute it at one input. -/
def passesMovedWrong : ChangeSpec := { name := "passesMoved", fn := fun _ => fun
  | [d1, d2, d3] => { results := [.lit (.bool false)], args := [d1, d2, d3] }
  | _ => none }
def PassesMovedWrongFalsely : Prop := passesMovedRow.holds Try.pinned (OpenSpec.ofChange passesMovedWrong)

/-- 'perigeelaw42.PassesKnown': WHATEVER THE INPUT: true; the input reads as it did. -/
def passesKnownSpec : ChangeSpec := { name := "passesKnown", fn := fun _ => fun
  | [] => { results := [.lit (.bool true)], args := [] }
  | _ => none }
def passesKnownRow : OpenClaim := { program := "ytacdigofjlbimaa", sum := "bda7f334b800b3fe1d2a55cbed1db7fe584c85825acd0b96877ab060fcdbae50", func := "perigee/perigeelaw42.PassesKnown", spec := "passesKnown", recurses := true, plainKeys := false, apart := false }
def PassesKnownSaid : Prop := passesKnownRow.holds Try.pinned (OpenSpec.ofChange passesKnownSpec)

/-- ITS FALSE NEIGHBOUR: 'it returns false'. Refute it at one input. -/
def passesKnownWrong : ChangeSpec := { name := "passesKnown", fn := fun _ => fun
  | [] => { results := [.lit (.bool false)], args := [] }
  | _ => none }
def PassesKnownWrongFalsely : Prop := passesKnownRow.holds Try.pinned (OpenSpec.ofChange passesKnownWrong)

/- THE SECOND FORM. 'bulk': how many values and letters a reading holds, each counted each time it is reached (what is shared counts as often as it is met; a slice's spare places count too). A statement '..UptoSaid' is the law's where the arguments, and the package variables that the reading takes, are together of bulk at most 1048576: NARROWER than '..Said'. Prove '..Said' where nothing that the law and all that it calls make is longer than what came in: it says more and counts as full. Else prove '..UptoSaid'. A law counts once. -/
mutual
def uptoBulk {H : Type} : DataW H → Nat
  | .lit (.string bytes) => bytes.length + 1
  | .lit _ => 1
  | .nil => 1
  | .ptr d => uptoBulk d + 1
  | .slice elems spare => uptoBulkAll elems + uptoBulkAll spare + 1
  | .agg parts => uptoBulkAll parts + 1
  | .iface _ d => uptoBulk d + 1
  | .map entries => uptoBulkEntries entries + 1
  | .held _ => 1
def uptoBulkAll {H : Type} : List (DataW H) → Nat
  | [] => 0
  | d :: r => uptoBulk d + uptoBulkAll r
def uptoBulkEntries {H : Type} : List (Lit × DataW H) → Nat
  | [] => 0
  | x :: r => uptoBulkEntry x + uptoBulkEntries r
def uptoBulkEntry {H : Type} : Lit × DataW H → Nat
  | (.string bytes, d) => bytes.length + uptoBulk d + 1
  | (_, d) => uptoBulk d + 1
 end
def uptoSmall : (H : Type) → List (DataW H) → Bool := fun _ ds => decide (uptoBulkAll ds ≤ 1048576)
def OpenSpec.upto (s : _root_.Go.ChangeSpec) : _root_.Go.OpenSpec := { _root_.Go.OpenSpec.ofChange s with cond := some uptoSmall }

/-- 'perigeelaw42.PassesBest', WHERE WHAT IT READS IS OF BULK AT MOST 1048576: true; the input reads as it did. -/
def passesBestUptoRow : OpenClaim := { program := "ytacdigofjlbimaa", sum := "bda7f334b800b3fe1d2a55cbed1db7fe584c85825acd0b96877ab060fcdbae50", func := "perigee/perigeelaw42.PassesBest", spec := "passesBest", recurses := true, plainKeys := false, apart := false, narrowed := true }
def PassesBestUptoSaid : Prop := passesBestUptoRow.holds Try.pinned (OpenSpec.upto passesBestSpec)

/-- 'perigeelaw42.PassesPlans', WHERE WHAT IT READS IS OF BULK AT MOST 1048576: true; the input reads as it did. -/
def passesPlansUptoRow : OpenClaim := { program := "ytacdigofjlbimaa", sum := "bda7f334b800b3fe1d2a55cbed1db7fe584c85825acd0b96877ab060fcdbae50", func := "perigee/perigeelaw42.PassesPlans", spec := "passesPlans", recurses := true, plainKeys := false, apart := false, narrowed := true }
def PassesPlansUptoSaid : Prop := passesPlansUptoRow.holds Try.pinned (OpenSpec.upto passesPlansSpec)

/-- 'perigeelaw42.PassesGreatest', WHERE WHAT IT READS IS OF BULK AT MOST 1048576: true; the input reads as it did. -/
def passesGreatestUptoRow : OpenClaim := { program := "ytacdigofjlbimaa", sum := "bda7f334b800b3fe1d2a55cbed1db7fe584c85825acd0b96877ab060fcdbae50", func := "perigee/perigeelaw42.PassesGreatest", spec := "passesGreatest", recurses := true, plainKeys := false, apart := false, narrowed := true }
def PassesGreatestUptoSaid : Prop := passesGreatestUptoRow.holds Try.pinned (OpenSpec.upto passesGreatestSpec)

/-- 'perigeelaw42.PassesMore', WHERE WHAT IT READS IS OF BULK AT MOST 1048576: true; the input reads as it did. -/
def passesMoreUptoRow : OpenClaim := { program := "ytacdigofjlbimaa", sum := "bda7f334b800b3fe1d2a55cbed1db7fe584c85825acd0b96877ab060fcdbae50", func := "perigee/perigeelaw42.PassesMore", spec := "passesMore", recurses := true, plainKeys := false, apart := false, narrowed := true }
def PassesMoreUptoSaid : Prop := passesMoreUptoRow.holds Try.pinned (OpenSpec.upto passesMoreSpec)

/-- 'perigeelaw42.PassesMoved', WHERE WHAT IT READS IS OF BULK AT MOST 1048576: true; the input reads as it did. -/
def passesMovedUptoRow : OpenClaim := { program := "ytacdigofjlbimaa", sum := "bda7f334b800b3fe1d2a55cbed1db7fe584c85825acd0b96877ab060fcdbae50", func := "perigee/perigeelaw42.PassesMoved", spec := "passesMoved", recurses := true, plainKeys := false, apart := false, narrowed := true }
def PassesMovedUptoSaid : Prop := passesMovedUptoRow.holds Try.pinned (OpenSpec.upto passesMovedSpec)

/-- 'perigeelaw42.PassesKnown', WHERE WHAT IT READS IS OF BULK AT MOST 1048576: true; the input reads as it did. -/
def passesKnownUptoRow : OpenClaim := { program := "ytacdigofjlbimaa", sum := "bda7f334b800b3fe1d2a55cbed1db7fe584c85825acd0b96877ab060fcdbae50", func := "perigee/perigeelaw42.PassesKnown", spec := "passesKnown", recurses := true, plainKeys := false, apart := false, narrowed := true }
def PassesKnownUptoSaid : Prop := passesKnownUptoRow.holds Try.pinned (OpenSpec.upto passesKnownSpec)

end Rows
end Go.Proofs.Ytacdigofjlbimaa
