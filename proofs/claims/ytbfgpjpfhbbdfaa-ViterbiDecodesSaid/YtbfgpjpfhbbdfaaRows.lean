/-
  No cell of these rows narrows 'for every input' (looked for: loops, veiled, ifaces, maps, wideKeys, modest, calm, conditions, laid).
  DERIVED. THE GIVEN ROWS OF THIS SEAT. 6 by the template 'for every input the law returns true; each argument reads behind the call as it read before'; 0 by the template 'total and deterministic' (their statements: YtbfgpjpfhbbdfaaTotals.lean).
  GIVEN WITH THE SEED: the statements are not yours to turn. If you find one false, say at which input.
  Laid BY PROGRAM, IN A SANDBOX (cutbox-rows.mjs): the forced cells as the released guide's own fill.sh prints them over the translation d410a58b199ffbf3… (all of the seat's roots in one cut). By AI agents, Wed Nov 11 2026. No macro, syntax, notation, axiom, sorry.
-/
import Derived.Test.YtbfgpjpfhbbdfaaChecked
import GoSem.Claim
import GoSem.ClaimJoined
import GoSem.ClaimMapViews
import Derived.JoinedTies
import Derived.KernelRfl
namespace Go.Proofs.Ytbfgpjpfhbbdfaa
/- THE CELL 'sum', in the pinned program and in every row, IS THE sha256 OF THE DUMP (.gsa) THAT YtbfgpjpfhbbdfaaProg.lean LOADS. Nothing in Lean hashes anything: it is a label: what it is worth is what the hold of that sum in a sandbox is worth. -/
noncomputable def Try.pinned : Pinned := { name := "ytbfgpjpfhbbdfaa", sum := "d410a58b199ffbf316039019860d51f43cb2cc783933933e490ed81b8cc73790", checked := Try.checked }
namespace Rows
def none {H : Type} : Left H := { results := [], args := [] }

/-- 'perigeelaw07.ViterbiDecodes': WHATEVER THE INPUT: true; the input reads as it did. -/
def viterbiDecodesSpec : ChangeSpec := { name := "viterbiDecodes", fn := fun _ => fun
  | [d1, d2] => { results := [.lit (.bool true)], args := [d1, d2] }
  | _ => none }
def viterbiDecodesRow : OpenClaim := { program := "ytbfgpjpfhbbdfaa", sum := "d410a58b199ffbf316039019860d51f43cb2cc783933933e490ed81b8cc73790", func := "perigee/perigeelaw07.ViterbiDecodes", spec := "viterbiDecodes", unfollowed := true, recurses := true, apart := false }
def ViterbiDecodesSaid : Prop := viterbiDecodesRow.holds Try.pinned (OpenSpec.ofChange viterbiDecodesSpec)

/-- ITS FALSE NEIGHBOUR: 'it returns false'. Refute it at one input. -/
def viterbiDecodesWrong : ChangeSpec := { name := "viterbiDecodes", fn := fun _ => fun
  | [d1, d2] => { results := [.lit (.bool false)], args := [d1, d2] }
  | _ => none }
def ViterbiDecodesWrongFalsely : Prop := viterbiDecodesRow.holds Try.pinned (OpenSpec.ofChange viterbiDecodesWrong)

/-- 'perigeelaw07.ViterbiScores': WHATEVER THE INPUT: true; the input reads as it did. -/
def viterbiScoresSpec : ChangeSpec := { name := "viterbiScores", fn := fun _ => fun
  | [d1, d2, d3] => { results := [.lit (.bool true)], args := [d1, d2, d3] }
  | _ => none }
def viterbiScoresRow : OpenClaim := { program := "ytbfgpjpfhbbdfaa", sum := "d410a58b199ffbf316039019860d51f43cb2cc783933933e490ed81b8cc73790", func := "perigee/perigeelaw07.ViterbiScores", spec := "viterbiScores", unfollowed := true, recurses := true, apart := false }
def ViterbiScoresSaid : Prop := viterbiScoresRow.holds Try.pinned (OpenSpec.ofChange viterbiScoresSpec)

/-- ITS FALSE NEIGHBOUR: 'it returns false'. Refute it at one input. -/
def viterbiScoresWrong : ChangeSpec := { name := "viterbiScores", fn := fun _ => fun
  | [d1, d2, d3] => { results := [.lit (.bool false)], args := [d1, d2, d3] }
  | _ => none }
def ViterbiScoresWrongFalsely : Prop := viterbiScoresRow.holds Try.pinned (OpenSpec.ofChange viterbiScoresWrong)

/-- 'perigeelaw07.ViterbiBest': WHATEVER THE INPUT: true; the input reads as it did. -/
def viterbiBestSpec : ChangeSpec := { name := "viterbiBest", fn := fun _ => fun
  | [d1, d2, d3] => { results := [.lit (.bool true)], args := [d1, d2, d3] }
  | _ => none }
def viterbiBestRow : OpenClaim := { program := "ytbfgpjpfhbbdfaa", sum := "d410a58b199ffbf316039019860d51f43cb2cc783933933e490ed81b8cc73790", func := "perigee/perigeelaw07.ViterbiBest", spec := "viterbiBest", unfollowed := true, recurses := true, apart := false }
def ViterbiBestSaid : Prop := viterbiBestRow.holds Try.pinned (OpenSpec.ofChange viterbiBestSpec)

/-- ITS FALSE NEIGHBOUR: 'it returns false'. Refute it at one input. -/
def viterbiBestWrong : ChangeSpec := { name := "viterbiBest", fn := fun _ => fun
  | [d1, d2, d3] => { results := [.lit (.bool false)], args := [d1, d2, d3] }
  | _ => none }
def ViterbiBestWrongFalsely : Prop := viterbiBestRow.holds Try.pinned (OpenSpec.ofChange viterbiBestWrong)

/-- 'perigeelaw07.ViterbiAll': WHATEVER THE INPUT: true; the input reads as it did. -/
def viterbiAllSpec : ChangeSpec := { name := "viterbiAll", fn := fun _ => fun
  | [d1, d2] => { results := [.lit (.bool true)], args := [d1, d2] }
  | _ => none }
def viterbiAllRow : OpenClaim := { program := "ytbfgpjpfhbbdfaa", sum := "d410a58b199ffbf316039019860d51f43cb2cc783933933e490ed81b8cc73790", func := "perigee/perigeelaw07.ViterbiAll", spec := "viterbiAll", unfollowed := true, recurses := true, apart := false }
def ViterbiAllSaid : Prop := viterbiAllRow.holds Try.pinned (OpenSpec.ofChange viterbiAllSpec)

/-- ITS FALSE NEIGHBOUR: 'it returns false'. Refute it at one input. -/
def viterbiAllWrong : ChangeSpec := { name := "viterbiAll", fn := fun _ => fun
  | [d1, d2] => { results := [.lit (.bool false)], args := [d1, d2] }
  | _ => none }
def ViterbiAllWrongFalsely : Prop := viterbiAllRow.holds Try.pinned (OpenSpec.ofChange viterbiAllWrong)

/-- 'perigeelaw07.ViterbiCorrects': WHATEVER THE INPUT: true; the input reads as it did. -/
def viterbiCorrectsSpec : ChangeSpec := { name := "viterbiCorrects", fn := fun _ => fun
  | [d1, d2] => { results := [.lit (.bool true)], args := [d1, d2] }
  | _ => none }
def viterbiCorrectsRow : OpenClaim := { program := "ytbfgpjpfhbbdfaa", sum := "d410a58b199ffbf316039019860d51f43cb2cc783933933e490ed81b8cc73790", func := "perigee/perigeelaw07.ViterbiCorrects", spec := "viterbiCorrects", unfollowed := true, recurses := true, apart := false }
def ViterbiCorrectsSaid : Prop := viterbiCorrectsRow.holds Try.pinned (OpenSpec.ofChange viterbiCorrectsSpec)

/-- ITS FALSE NEIGHBOUR: 'it returns false'. Refute it at one input. -/
def viterbiCorrectsWrong : ChangeSpec := { name := "viterbiCorrects", fn := fun _ => fun
  | [d1, d2] => { results := [.lit (.bool false)], args := [d1, d2] }
  | _ => none }
def ViterbiCorrectsWrongFalsely : Prop := viterbiCorrectsRow.holds Try.pinned (OpenSpec.ofChange viterbiCorrectsWrong)

/-- 'perigeelaw07.ViterbiShifts': WHATEVER THE INPUT: true; the input reads as it did. -/
def viterbiShiftsSpec : ChangeSpec := { name := "viterbiShifts", fn := fun _ => fun
  | [d1, d2] => { results := [.lit (.bool true)], args := [d1, d2] }
  | _ => none }
def viterbiShiftsRow : OpenClaim := { program := "ytbfgpjpfhbbdfaa", sum := "d410a58b199ffbf316039019860d51f43cb2cc783933933e490ed81b8cc73790", func := "perigee/perigeelaw07.ViterbiShifts", spec := "viterbiShifts", unfollowed := true, recurses := true, apart := false }
def ViterbiShiftsSaid : Prop := viterbiShiftsRow.holds Try.pinned (OpenSpec.ofChange viterbiShiftsSpec)

/-- ITS FALSE NEIGHBOUR: 'it returns false'. Refute it at one input. -/
def viterbiShiftsWrong : ChangeSpec := { name := "viterbiShifts", fn := fun _ => fun
  | [d1, d2] => { results := [.lit (.bool false)], args := [d1, d2] }
  | _ => none }
def ViterbiShiftsWrongFalsely : Prop := viterbiShiftsRow.holds Try.pinned (OpenSpec.ofChange viterbiShiftsWrong)

/- THE SECOND FORM. 'bulk': how many values and letters a reading holds, each counted each time it is reached (what is shared counts as often as it is met; a slice's spare places count too). A statement '..UptoSaid' is the law's where the arguments, and the package variables that the reading takes, are together of bulk at most 1048576: NARROWER than '..Said'. Prove '..Said' where nothing that the law and all that it calls make is longer than what came in: it says more and counts as full. Else prove '..UptoSaid'. A law counts once. -/
mutual
def uptoBulk {H : Type} : DataW H → Nat
  | .lit (.string bytes) => bytes.length + 1
  | .lit _ => 1
  | .nil => 1
  | .ptr d => uptoBulk d + 1
  | .slice elems spare => uptoBulkAll elems + uptoBulkAll spare + 1
  | .agg parts => uptoBulkAll parts + 1
  | .iface _ d => uptoBulk d + 1
  | .map entries => uptoBulkEntries entries + 1
  | .held _ => 1
def uptoBulkAll {H : Type} : List (DataW H) → Nat
  | [] => 0
  | d :: r => uptoBulk d + uptoBulkAll r
def uptoBulkEntries {H : Type} : List (Lit × DataW H) → Nat
  | [] => 0
  | x :: r => uptoBulkEntry x + uptoBulkEntries r
def uptoBulkEntry {H : Type} : Lit × DataW H → Nat
  | (.string bytes, d) => bytes.length + uptoBulk d + 1
  | (_, d) => uptoBulk d + 1
 end
def uptoSmall : (H : Type) → List (DataW H) → Bool := fun _ ds => decide (uptoBulkAll ds ≤ 1048576)
def OpenSpec.upto (s : _root_.Go.ChangeSpec) : _root_.Go.OpenSpec := { _root_.Go.OpenSpec.ofChange s with cond := some uptoSmall }

/-- 'perigeelaw07.ViterbiDecodes', WHERE WHAT IT READS IS OF BULK AT MOST 1048576: true; the input reads as it did. -/
def viterbiDecodesUptoRow : OpenClaim := { program := "ytbfgpjpfhbbdfaa", sum := "d410a58b199ffbf316039019860d51f43cb2cc783933933e490ed81b8cc73790", func := "perigee/perigeelaw07.ViterbiDecodes", spec := "viterbiDecodes", unfollowed := true, recurses := true, apart := false, narrowed := true }
def ViterbiDecodesUptoSaid : Prop := viterbiDecodesUptoRow.holds Try.pinned (OpenSpec.upto viterbiDecodesSpec)

/-- 'perigeelaw07.ViterbiScores', WHERE WHAT IT READS IS OF BULK AT MOST 1048576: true; the input reads as it did. -/
def viterbiScoresUptoRow : OpenClaim := { program := "ytbfgpjpfhbbdfaa", sum := "d410a58b199ffbf316039019860d51f43cb2cc783933933e490ed81b8cc73790", func := "perigee/perigeelaw07.ViterbiScores", spec := "viterbiScores", unfollowed := true, recurses := true, apart := false, narrowed := true }
def ViterbiScoresUptoSaid : Prop := viterbiScoresUptoRow.holds Try.pinned (OpenSpec.upto viterbiScoresSpec)

/-- 'perigeelaw07.ViterbiBest', WHERE WHAT IT READS IS OF BULK AT MOST 1048576: true; the input reads as it did. -/
def viterbiBestUptoRow : OpenClaim := { program := "ytbfgpjpfhbbdfaa", sum := "d410a58b199ffbf316039019860d51f43cb2cc783933933e490ed81b8cc73790", func := "perigee/perigeelaw07.ViterbiBest", spec := "viterbiBest", unfollowed := true, recurses := true, apart := false, narrowed := true }
def ViterbiBestUptoSaid : Prop := viterbiBestUptoRow.holds Try.pinned (OpenSpec.upto viterbiBestSpec)

/-- 'perigeelaw07.ViterbiAll', WHERE WHAT IT READS IS OF BULK AT MOST 1048576: true; the input reads as it did. -/
def viterbiAllUptoRow : OpenClaim := { program := "ytbfgpjpfhbbdfaa", sum := "d410a58b199ffbf316039019860d51f43cb2cc783933933e490ed81b8cc73790", func := "perigee/perigeelaw07.ViterbiAll", spec := "viterbiAll", unfollowed := true, recurses := true, apart := false, narrowed := true }
def ViterbiAllUptoSaid : Prop := viterbiAllUptoRow.holds Try.pinned (OpenSpec.upto viterbiAllSpec)

/-- 'perigeelaw07.ViterbiCorrects', WHERE WHAT IT READS IS OF BULK AT MOST 1048576: true; the input reads as it did. -/
def viterbiCorrectsUptoRow : OpenClaim := { program := "ytbfgpjpfhbbdfaa", sum := "d410a58b199ffbf316039019860d51f43cb2cc783933933e490ed81b8cc73790", func := "perigee/perigeelaw07.ViterbiCorrects", spec := "viterbiCorrects", unfollowed := true, recurses := true, apart := false, narrowed := true }
def ViterbiCorrectsUptoSaid : Prop := viterbiCorrectsUptoRow.holds Try.pinned (OpenSpec.upto viterbiCorrectsSpec)

/-- 'perigeelaw07.ViterbiShifts', WHERE WHAT IT READS IS OF BULK AT MOST 1048576: true; the input reads as it did. -/
def viterbiShiftsUptoRow : OpenClaim := { program := "ytbfgpjpfhbbdfaa", sum := "d410a58b199ffbf316039019860d51f43cb2cc783933933e490ed81b8cc73790", func := "perigee/perigeelaw07.ViterbiShifts", spec := "viterbiShifts", unfollowed := true, recurses := true, apart := false, narrowed := true }
def ViterbiShiftsUptoSaid : Prop := viterbiShiftsUptoRow.holds Try.pinned (OpenSpec.upto viterbiShiftsSpec)

end Rows
end Go.Proofs.Ytbfgpjpfhbbdfaa
