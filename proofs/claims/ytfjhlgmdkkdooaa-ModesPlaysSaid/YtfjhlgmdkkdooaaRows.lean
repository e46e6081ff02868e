/-
  No cell of these rows narrows 'for every input' (looked for: loops, veiled, ifaces, maps, wideKeys, modest, calm, conditions, laid).
  DERIVED. THE GIVEN ROWS OF THIS SEAT. 5 by the template 'for every input the law returns true; each argument reads behind the call as it read before'; 0 by the template 'total and deterministic' (their statements: YtfjhlgmdkkdooaaTotals.lean).
  GIVEN WITH THE SEED: the statements are not yours to turn. If you find one false, say at which input.
  Laid BY PROGRAM, IN A SANDBOX (cutbox-rows.mjs): the forced cells as the released guide's own fill.sh prints them over the translation fe0e706ce037e206… (all of the seat's roots in one cut). By AI agents, Wed Nov 11 2026. No macro, syntax, notation, axiom, sorry.
-/
import Derived.Test.YtfjhlgmdkkdooaaChecked
import GoSem.Claim
import GoSem.ClaimJoined
import GoSem.ClaimMapViews
import Derived.JoinedTies
import Derived.KernelRfl
namespace Go.Proofs.Ytfjhlgmdkkdooaa
/- THE CELL 'sum', in the pinned program and in every row, IS THE sha256 OF THE DUMP (.gsa) THAT YtfjhlgmdkkdooaaProg.lean LOADS. Nothing in Lean hashes anything: it is a label: what it is worth is what the hold of that sum in a sandbox is worth. -/
noncomputable def Try.pinned : Pinned := { name := "ytfjhlgmdkkdooaa", sum := "fe0e706ce037e206308bd72dad89535b4ff29979a41244d5f0c710390b8b5532", checked := Try.checked }
namespace Rows
def none {H : Type} : Left H := { results := [], args := [] }

/-- 'perigeelaw36.ModesPlays': WHATEVER THE INPUT: true; the input reads as it did. -/
def modesPlaysSpec : ChangeSpec := { name := "modesPlays", fn := fun _ => fun
  | [d1, d2] => { results := [.lit (.bool true)], args := [d1, d2] }
  | _ => none }
def modesPlaysRow : OpenClaim := { program := "ytfjhlgmdkkdooaa", sum := "fe0e706ce037e206308bd72dad89535b4ff29979a41244d5f0c710390b8b5532", func := "perigee/perigeelaw36.ModesPlays", spec := "modesPlays", inPlace := ["math/bits.Add64"], apart := false }
def ModesPlaysSaid : Prop := modesPlaysRow.holds Try.pinned (OpenSpec.ofChange modesPlaysSpec)

/-- ITS FALSE NEIGHBOUR: 'it returns false'. Refute it at one input. -/
def modesPlaysWrong : ChangeSpec := { name := "modesPlays", fn := fun _ => fun
  | [d1, d2] => { results := [.lit (.bool false)], args := [d1, d2] }
  | _ => none }
def ModesPlaysWrongFalsely : Prop := modesPlaysRow.holds Try.pinned (OpenSpec.ofChange modesPlaysWrong)

/-- 'perigeelaw36.ModesNone': WHATEVER THE INPUT: true; the input reads as it did. -/
def modesNoneSpec : ChangeSpec := { name := "modesNone", fn := fun _ => fun
  | [d1, d2, d3] => { results := [.lit (.bool true)], args := [d1, d2, d3] }
  | _ => none }
def modesNoneRow : OpenClaim := { program := "ytfjhlgmdkkdooaa", sum := "fe0e706ce037e206308bd72dad89535b4ff29979a41244d5f0c710390b8b5532", func := "perigee/perigeelaw36.ModesNone", spec := "modesNone", inPlace := ["math/bits.Add64"], apart := false }
def ModesNoneSaid : Prop := modesNoneRow.holds Try.pinned (OpenSpec.ofChange modesNoneSpec)

/-- ITS FALSE NEIGHBOUR: 'it returns false'. Refute it at one input. -/
def modesNoneWrong : ChangeSpec := { name := "modesNone", fn := fun _ => fun
  | [d1, d2, d3] => { results := [.lit (.bool false)], args := [d1, d2, d3] }
  | _ => none }
def ModesNoneWrongFalsely : Prop := modesNoneRow.holds Try.pinned (OpenSpec.ofChange modesNoneWrong)

/-- 'perigeelaw36.ModesSafe': WHATEVER THE INPUT: true; the input reads as it did. -/
def modesSafeSpec : ChangeSpec := { name := "modesSafe", fn := fun _ => fun
  | [d1, d2] => { results := [.lit (.bool true)], args := [d1, d2] }
  | _ => none }
def modesSafeRow : OpenClaim := { program := "ytfjhlgmdkkdooaa", sum := "fe0e706ce037e206308bd72dad89535b4ff29979a41244d5f0c710390b8b5532", func := "perigee/perigeelaw36.ModesSafe", spec := "modesSafe", inPlace := ["math/bits.Add64"], apart := false }
def ModesSafeSaid : Prop := modesSafeRow.holds Try.pinned (OpenSpec.ofChange modesSafeSpec)

/-- ITS FALSE NEIGHBOUR: 'it returns false'. Refute it at one input. -/
def modesSafeWrong : ChangeSpec := { name := "modesSafe", fn := fun _ => fun
  | [d1, d2] => { results := [.lit (.bool false)], args := [d1, d2] }
  | _ => none }
def ModesSafeWrongFalsely : Prop := modesSafeRow.holds Try.pinned (OpenSpec.ofChange modesSafeWrong)

/-- 'perigeelaw36.ModesPoint': WHATEVER THE INPUT: true; the input reads as it did. -/
def modesPointSpec : ChangeSpec := { name := "modesPoint", fn := fun _ => fun
  | [d] => { results := [.lit (.bool true)], args := [d] }
  | _ => none }
def modesPointRow : OpenClaim := { program := "ytfjhlgmdkkdooaa", sum := "fe0e706ce037e206308bd72dad89535b4ff29979a41244d5f0c710390b8b5532", func := "perigee/perigeelaw36.ModesPoint", spec := "modesPoint", inPlace := ["math/bits.Add64"], apart := false }
def ModesPointSaid : Prop := modesPointRow.holds Try.pinned (OpenSpec.ofChange modesPointSpec)

/-- ITS FALSE NEIGHBOUR: 'it returns false'. Refute it at one input. -/
def modesPointWrong : ChangeSpec := { name := "modesPoint", fn := fun _ => fun
  | [d] => { results := [.lit (.bool false)], args := [d] }
  | _ => none }
def ModesPointWrongFalsely : Prop := modesPointRow.holds Try.pinned (OpenSpec.ofChange modesPointWrong)

/-- 'perigeelaw36.ModesLoads': WHATEVER THE INPUT: true; the input reads as it did. -/
def modesLoadsSpec : ChangeSpec := { name := "modesLoads", fn := fun _ => fun
  | [d1, d2, d3] => { results := [.lit (.bool true)], args := [d1, d2, d3] }
  | _ => none }
def modesLoadsRow : OpenClaim := { program := "ytfjhlgmdkkdooaa", sum := "fe0e706ce037e206308bd72dad89535b4ff29979a41244d5f0c710390b8b5532", func := "perigee/perigeelaw36.ModesLoads", spec := "modesLoads", inPlace := ["math/bits.Add64"], apart := false }
def ModesLoadsSaid : Prop := modesLoadsRow.holds Try.pinned (OpenSpec.ofChange modesLoadsSpec)

/-- ITS FALSE NEIGHBOUR: 'it returns false'. Refute it at one input. -/
def modesLoadsWrong : ChangeSpec := { name := "modesLoads", fn := fun _ => fun
  | [d1, d2, d3] => { results := [.lit (.bool false)], args := [d1, d2, d3] }
  | _ => none }
def ModesLoadsWrongFalsely : Prop := modesLoadsRow.holds Try.pinned (OpenSpec.ofChange modesLoadsWrong)

/- THE SECOND FORM. 'bulk': how many values and letters a reading holds, each counted each time it is reached (what is shared counts as often as it is met; a slice's spare places count too). A statement '..UptoSaid' is the law's where the arguments, and the package variables that the reading takes, are together of bulk at most 1048576: NARROWER than '..Said'. Prove '..Said' where nothing that the law and all that it calls make is longer than what came in: it says more and counts as full. Else prove '..UptoSaid'. A law counts once. -/
mutual
def uptoBulk {H : Type} : DataW H → Nat
  | .lit (.string bytes) => bytes.length + 1
  | .lit _ => 1
  | .nil => 1
  | .ptr d => uptoBulk d + 1
  | .slice elems spare => uptoBulkAll elems + uptoBulkAll spare + 1
  | .agg parts => uptoBulkAll parts + 1
  | .iface _ d => uptoBulk d + 1
  | .map entries => uptoBulkEntries entries + 1
  | .held _ => 1
def uptoBulkAll {H : Type} : List (DataW H) → Nat
  | [] => 0
  | d :: r => uptoBulk d + uptoBulkAll r
def uptoBulkEntries {H : Type} : List (Lit × DataW H) → Nat
  | [] => 0
  | x :: r => uptoBulkEntry x + uptoBulkEntries r
def uptoBulkEntry {H : Type} : Lit × DataW H → Nat
  | (.string bytes, d) => bytes.length + uptoBulk d + 1
  | (_, d) => uptoBulk d + 1
 end
def uptoSmall : (H : Type) → List (DataW H) → Bool := fun _ ds => decide (uptoBulkAll ds ≤ 1048576)
def OpenSpec.upto (s : _root_.Go.ChangeSpec) : _root_.Go.OpenSpec := { _root_.Go.OpenSpec.ofChange s with cond := some uptoSmall }

/-- 'perigeelaw36.ModesPlays', WHERE WHAT IT READS IS OF BULK AT MOST 1048576: true; the input reads as it did. -/
def modesPlaysUptoRow : OpenClaim := { program := "ytfjhlgmdkkdooaa", sum := "fe0e706ce037e206308bd72dad89535b4ff29979a41244d5f0c710390b8b5532", func := "perigee/perigeelaw36.ModesPlays", spec := "modesPlays", inPlace := ["math/bits.Add64"], apart := false, narrowed := true }
def ModesPlaysUptoSaid : Prop := modesPlaysUptoRow.holds Try.pinned (OpenSpec.upto modesPlaysSpec)

/-- 'perigeelaw36.ModesNone', WHERE WHAT IT READS IS OF BULK AT MOST 1048576: true; the input reads as it did. -/
def modesNoneUptoRow : OpenClaim := { program := "ytfjhlgmdkkdooaa", sum := "fe0e706ce037e206308bd72dad89535b4ff29979a41244d5f0c710390b8b5532", func := "perigee/perigeelaw36.ModesNone", spec := "modesNone", inPlace := ["math/bits.Add64"], apart := false, narrowed := true }
def ModesNoneUptoSaid : Prop := modesNoneUptoRow.holds Try.pinned (OpenSpec.upto modesNoneSpec)

/-- 'perigeelaw36.ModesSafe', WHERE WHAT IT READS IS OF BULK AT MOST 1048576: true; the input reads as it did. -/
def modesSafeUptoRow : OpenClaim := { program := "ytfjhlgmdkkdooaa", sum := "fe0e706ce037e206308bd72dad89535b4ff29979a41244d5f0c710390b8b5532", func := "perigee/perigeelaw36.ModesSafe", spec := "modesSafe", inPlace := ["math/bits.Add64"], apart := false, narrowed := true }
def ModesSafeUptoSaid : Prop := modesSafeUptoRow.holds Try.pinned (OpenSpec.upto modesSafeSpec)

/-- 'perigeelaw36.ModesPoint', WHERE WHAT IT READS IS OF BULK AT MOST 1048576: true; the input reads as it did. -/
def modesPointUptoRow : OpenClaim := { program := "ytfjhlgmdkkdooaa", sum := "fe0e706ce037e206308bd72dad89535b4ff29979a41244d5f0c710390b8b5532", func := "perigee/perigeelaw36.ModesPoint", spec := "modesPoint", inPlace := ["math/bits.Add64"], apart := false, narrowed := true }
def ModesPointUptoSaid : Prop := modesPointUptoRow.holds Try.pinned (OpenSpec.upto modesPointSpec)

/-- 'perigeelaw36.ModesLoads', WHERE WHAT IT READS IS OF BULK AT MOST 1048576: true; the input reads as it did. -/
def modesLoadsUptoRow : OpenClaim := { program := "ytfjhlgmdkkdooaa", sum := "fe0e706ce037e206308bd72dad89535b4ff29979a41244d5f0c710390b8b5532", func := "perigee/perigeelaw36.ModesLoads", spec := "modesLoads", inPlace := ["math/bits.Add64"], apart := false, narrowed := true }
def ModesLoadsUptoSaid : Prop := modesLoadsUptoRow.holds Try.pinned (OpenSpec.upto modesLoadsSpec)

end Rows
end Go.Proofs.Ytfjhlgmdkkdooaa
