/-
  No cell of these rows narrows 'for every input' (looked for: loops, veiled, ifaces, maps, wideKeys, modest, calm, conditions, laid).
  DERIVED. THE GIVEN ROWS OF THIS SEAT. 5 by the template 'for every input the law returns true; each argument reads behind the call as it read before'; 0 by the template 'total and deterministic' (their statements: YthgilipffdcddaaTotals.lean).
  GIVEN WITH THE SEED: the statements are not yours to turn. If you find one false, say at which input.
  Laid BY PROGRAM, IN A SANDBOX (cutbox-rows.mjs): the forced cells as the released guide's own fill.sh prints them over the translation d5b5708b0e9bbc25… (all of the seat's roots in one cut). By AI agents, Wed Nov 11 2026. No macro, syntax, notation, axiom, sorry.
-/
import Derived.Test.YthgilipffdcddaaChecked
import GoSem.Claim
import GoSem.ClaimJoined
import GoSem.ClaimMapViews
import Derived.JoinedTies
import Derived.KernelRfl
namespace Go.Proofs.Ythgilipffdcddaa
/- THE CELL 'sum', in the pinned program and in every row, IS THE sha256 OF THE DUMP (.gsa) THAT YthgilipffdcddaaProg.lean LOADS. Nothing in Lean hashes anything: it is a label: what it is worth is what the hold of that sum in a sandbox is worth. -/
noncomputable def Try.pinned : Pinned := { name := "ythgilipffdcddaa", sum := "d5b5708b0e9bbc2598ae761ab2479608b578c76251221631e064829494e37acc", checked := Try.checked }
namespace Rows
def none {H : Type} : Left H := { results := [], args := [] }

/-- 'perigeelaw35.FaultsPersist': WHATEVER THE INPUT: true; the input reads as it did. -/
def faultsPersistSpec : ChangeSpec := { name := "faultsPersist", fn := fun _ => fun
  | [d1, d2] => { results := [.lit (.bool true)], args := [d1, d2] }
  | _ => none }
def faultsPersistRow : OpenClaim := { program := "ythgilipffdcddaa", sum := "d5b5708b0e9bbc2598ae761ab2479608b578c76251221631e064829494e37acc", func := "perigee/perigeelaw35.FaultsPersist", spec := "faultsPersist", unfollowed := true, recurses := true, apart := false }
def FaultsPersistSaid : Prop := faultsPersistRow.holds Try.pinned (OpenSpec.ofChange faultsPersistSpec)

/-- ITS FALSE NEIGHBOUR: 'it returns false'. Refute it at one input. -/
def faultsPersistWrong : ChangeSpec := { name := "faultsPersist", fn := fun _ => fun
  | [d1, d2] => { results := [.lit (.bool false)], args := [d1, d2] }
  | _ => none }
def FaultsPersistWrongFalsely : Prop := faultsPersistRow.holds Try.pinned (OpenSpec.ofChange faultsPersistWrong)

/-- 'perigeelaw35.FaultsAlone': WHATEVER THE INPUT: true; the input reads as it did. -/
def faultsAloneSpec : ChangeSpec := { name := "faultsAlone", fn := fun _ => fun
  | [d1, d2] => { results := [.lit (.bool true)], args := [d1, d2] }
  | _ => none }
def faultsAloneRow : OpenClaim := { program := "ythgilipffdcddaa", sum := "d5b5708b0e9bbc2598ae761ab2479608b578c76251221631e064829494e37acc", func := "perigee/perigeelaw35.FaultsAlone", spec := "faultsAlone", unfollowed := true, recurses := true, apart := false }
def FaultsAloneSaid : Prop := faultsAloneRow.holds Try.pinned (OpenSpec.ofChange faultsAloneSpec)

/-- ITS FALSE NEIGHBOUR: 'it returns false'. Refute it at one input. -/
def faultsAloneWrong : ChangeSpec := { name := "faultsAlone", fn := fun _ => fun
  | [d1, d2] => { results := [.lit (.bool false)], args := [d1, d2] }
  | _ => none }
def FaultsAloneWrongFalsely : Prop := faultsAloneRow.holds Try.pinned (OpenSpec.ofChange faultsAloneWrong)

/-- 'perigeelaw35.FaultsPlays': WHATEVER THE INPUT: true; the input reads as it did. -/
def faultsPlaysSpec : ChangeSpec := { name := "faultsPlays", fn := fun _ => fun
  | [d1, d2] => { results := [.lit (.bool true)], args := [d1, d2] }
  | _ => none }
def faultsPlaysRow : OpenClaim := { program := "ythgilipffdcddaa", sum := "d5b5708b0e9bbc2598ae761ab2479608b578c76251221631e064829494e37acc", func := "perigee/perigeelaw35.FaultsPlays", spec := "faultsPlays", unfollowed := true, recurses := true, apart := false }
def FaultsPlaysSaid : Prop := faultsPlaysRow.holds Try.pinned (OpenSpec.ofChange faultsPlaysSpec)

/-- ITS FALSE NEIGHBOUR: 'it returns false'. Refute it at one input. -/
def faultsPlaysWrong : ChangeSpec := { name := "faultsPlays", fn := fun _ => fun
  | [d1, d2] => { results := [.lit (.bool false)], args := [d1, d2] }
  | _ => none }
def FaultsPlaysWrongFalsely : Prop := faultsPlaysRow.holds Try.pinned (OpenSpec.ofChange faultsPlaysWrong)

/-- 'perigeelaw35.FaultsNone': WHATEVER THE INPUT: true; the input reads as it did. -/
def faultsNoneSpec : ChangeSpec := { name := "faultsNone", fn := fun _ => fun
  | [d1, d2] => { results := [.lit (.bool true)], args := [d1, d2] }
  | _ => none }
def faultsNoneRow : OpenClaim := { program := "ythgilipffdcddaa", sum := "d5b5708b0e9bbc2598ae761ab2479608b578c76251221631e064829494e37acc", func := "perigee/perigeelaw35.FaultsNone", spec := "faultsNone", unfollowed := true, recurses := true, apart := false }
def FaultsNoneSaid : Prop := faultsNoneRow.holds Try.pinned (OpenSpec.ofChange faultsNoneSpec)

/-- ITS FALSE NEIGHBOUR: 'it returns false'. Refute it at one input. -/
def faultsNoneWrong : ChangeSpec := { name := "faultsNone", fn := fun _ => fun
  | [d1, d2] => { results := [.lit (.bool false)], args := [d1, d2] }
  | _ => none }
def FaultsNoneWrongFalsely : Prop := faultsNoneRow.holds Try.pinned (OpenSpec.ofChange faultsNoneWrong)

/-- 'perigeelaw35.FaultsRests': WHATEVER THE INPUT: true; the input reads as it did. -/
def faultsRestsSpec : ChangeSpec := { name := "faultsRests", fn := fun _ => fun
  | [d1, d2] => { results := [.lit (.bool true)], args := [d1, d2] }
  | _ => none }
def faultsRestsRow : OpenClaim := { program := "ythgilipffdcddaa", sum := "d5b5708b0e9bbc2598ae761ab2479608b578c76251221631e064829494e37acc", func := "perigee/perigeelaw35.FaultsRests", spec := "faultsRests", unfollowed := true, recurses := true, apart := false }
def FaultsRestsSaid : Prop := faultsRestsRow.holds Try.pinned (OpenSpec.ofChange faultsRestsSpec)

/-- ITS FALSE NEIGHBOUR: 'it returns false'. Refute it at one input. -/
def faultsRestsWrong : ChangeSpec := { name := "faultsRests", fn := fun _ => fun
  | [d1, d2] => { results := [.lit (.bool false)], args := [d1, d2] }
  | _ => none }
def FaultsRestsWrongFalsely : Prop := faultsRestsRow.holds Try.pinned (OpenSpec.ofChange faultsRestsWrong)

/- THE SECOND FORM. 'bulk': how many values and letters a reading holds, each counted each time it is reached (what is shared counts as often as it is met; a slice's spare places count too). A statement '..UptoSaid' is the law's where the arguments, and the package variables that the reading takes, are together of bulk at most 1048576: NARROWER than '..Said'. Prove '..Said' where nothing that the law and all that it calls make is longer than what came in: it says more and counts as full. Else prove '..UptoSaid'. A law counts once. -/
mutual
def uptoBulk {H : Type} : DataW H → Nat
  | .lit (.string bytes) => bytes.length + 1
  | .lit _ => 1
  | .nil => 1
  | .ptr d => uptoBulk d + 1
  | .slice elems spare => uptoBulkAll elems + uptoBulkAll spare + 1
  | .agg parts => uptoBulkAll parts + 1
  | .iface _ d => uptoBulk d + 1
  | .map entries => uptoBulkEntries entries + 1
  | .held _ => 1
def uptoBulkAll {H : Type} : List (DataW H) → Nat
  | [] => 0
  | d :: r => uptoBulk d + uptoBulkAll r
def uptoBulkEntries {H : Type} : List (Lit × DataW H) → Nat
  | [] => 0
  | x :: r => uptoBulkEntry x + uptoBulkEntries r
def uptoBulkEntry {H : Type} : Lit × DataW H → Nat
  | (.string bytes, d) => bytes.length + uptoBulk d + 1
  | (_, d) => uptoBulk d + 1
 end
def uptoSmall : (H : Type) → List (DataW H) → Bool := fun _ ds => decide (uptoBulkAll ds ≤ 1048576)
def OpenSpec.upto (s : _root_.Go.ChangeSpec) : _root_.Go.OpenSpec := { _root_.Go.OpenSpec.ofChange s with cond := some uptoSmall }

/-- 'perigeelaw35.FaultsPersist', WHERE WHAT IT READS IS OF BULK AT MOST 1048576: true; the input reads as it did. -/
def faultsPersistUptoRow : OpenClaim := { program := "ythgilipffdcddaa", sum := "d5b5708b0e9bbc2598ae761ab2479608b578c76251221631e064829494e37acc", func := "perigee/perigeelaw35.FaultsPersist", spec := "faultsPersist", unfollowed := true, recurses := true, apart := false, narrowed := true }
def FaultsPersistUptoSaid : Prop := faultsPersistUptoRow.holds Try.pinned (OpenSpec.upto faultsPersistSpec)

/-- 'perigeelaw35.FaultsAlone', WHERE WHAT IT READS IS OF BULK AT MOST 1048576: true; the input reads as it did. -/
def faultsAloneUptoRow : OpenClaim := { program := "ythgilipffdcddaa", sum := "d5b5708b0e9bbc2598ae761ab2479608b578c76251221631e064829494e37acc", func := "perigee/perigeelaw35.FaultsAlone", spec := "faultsAlone", unfollowed := true, recurses := true, apart := false, narrowed := true }
def FaultsAloneUptoSaid : Prop := faultsAloneUptoRow.holds Try.pinned (OpenSpec.upto faultsAloneSpec)

/-- 'perigeelaw35.FaultsPlays', WHERE WHAT IT READS IS OF BULK AT MOST 1048576: true; the input reads as it did. -/
def faultsPlaysUptoRow : OpenClaim := { program := "ythgilipffdcddaa", sum := "d5b5708b0e9bbc2598ae761ab2479608b578c76251221631e064829494e37acc", func := "perigee/perigeelaw35.FaultsPlays", spec := "faultsPlays", unfollowed := true, recurses := true, apart := false, narrowed := true }
def FaultsPlaysUptoSaid : Prop := faultsPlaysUptoRow.holds Try.pinned (OpenSpec.upto faultsPlaysSpec)

/-- 'perigeelaw35.FaultsNone', WHERE WHAT IT READS IS OF BULK AT MOST 1048576: true; the input reads as it did. -/
def faultsNoneUptoRow : OpenClaim := { program := "ythgilipffdcddaa", sum := "d5b5708b0e9bbc2598ae761ab2479608b578c76251221631e064829494e37acc", func := "perigee/perigeelaw35.FaultsNone", spec := "faultsNone", unfollowed := true, recurses := true, apart := false, narrowed := true }
def FaultsNoneUptoSaid : Prop := faultsNoneUptoRow.holds Try.pinned (OpenSpec.upto faultsNoneSpec)

/-- 'perigeelaw35.FaultsRests', WHERE WHAT IT READS IS OF BULK AT MOST 1048576: true; the input reads as it did. -/
def faultsRestsUptoRow : OpenClaim := { program := "ythgilipffdcddaa", sum := "d5b5708b0e9bbc2598ae761ab2479608b578c76251221631e064829494e37acc", func := "perigee/perigeelaw35.FaultsRests", spec := "faultsRests", unfollowed := true, recurses := true, apart := false, narrowed := true }
def FaultsRestsUptoSaid : Prop := faultsRestsUptoRow.holds Try.pinned (OpenSpec.upto faultsRestsSpec)

end Rows
end Go.Proofs.Ythgilipffdcddaa
