/-
  No cell of these rows narrows 'for every input' (looked for: loops, veiled, ifaces, maps, wideKeys, modest, calm, conditions, laid).
  DERIVED. THE GIVEN ROWS OF THIS SEAT. 6 by the template 'for every input the law returns true; each argument reads behind the call as it read before'; 0 by the template 'total and deterministic' (their statements: YtaifnonamkidiaaTotals.lean).
  GIVEN WITH THE SEED: the statements are not yours to turn. If you find one false, say at which input.
  Laid BY PROGRAM, IN A SANDBOX (cutbox-rows.mjs): the forced cells as the released guide's own fill.sh prints them over the translation 68e10615d5119161… (all of the seat's roots in one cut). By AI agents, Wed Nov 11 2026. No macro, syntax, notation, axiom, sorry.
-/
import Derived.Test.YtaifnonamkidiaaChecked
import GoSem.Claim
import GoSem.ClaimJoined
import GoSem.ClaimMapViews
import Derived.JoinedTies
import Derived.KernelRfl
namespace Go.Proofs.Ytaifnonamkidiaa
/- THE CELL 'sum', in the pinned program and in every row, IS THE sha256 OF THE DUMP (.gsa) THAT YtaifnonamkidiaaProg.lean LOADS. Nothing in Lean hashes anything: it is a label: what it is worth is what the hold of that sum in a sandbox is worth. -/
noncomputable def Try.pinned : Pinned := { name := "ytaifnonamkidiaa", sum := "68e10615d5119161492634995a62117ef2db200834ef5479196c8fa61dfe990b", checked := Try.checked }
namespace Rows
def none {H : Type} : Left H := { results := [], args := [] }

/-- 'perigeelaw06.ConvolSteps': WHATEVER THE INPUT: true; the input reads as it did. -/
def convolStepsSpec : ChangeSpec := { name := "convolSteps", fn := fun _ => fun
  | [d1, d2, d3] => { results := [.lit (.bool true)], args := [d1, d2, d3] }
  | _ => none }
def convolStepsRow : OpenClaim := { program := "ytaifnonamkidiaa", sum := "68e10615d5119161492634995a62117ef2db200834ef5479196c8fa61dfe990b", func := "perigee/perigeelaw06.ConvolSteps", spec := "convolSteps", unfollowed := true, recurses := true, apart := false }
def ConvolStepsSaid : Prop := convolStepsRow.holds Try.pinned (OpenSpec.ofChange convolStepsSpec)

/-- ITS FALSE NEIGHBOUR: 'it returns false'. Refute it at one input. -/
def convolStepsWrong : ChangeSpec := { name := "convolSteps", fn := fun _ => fun
  | [d1, d2, d3] => { results := [.lit (.bool false)], args := [d1, d2, d3] }
  | _ => none }
def ConvolStepsWrongFalsely : Prop := convolStepsRow.holds Try.pinned (OpenSpec.ofChange convolStepsWrong)

/-- 'perigeelaw06.ConvolEncodes': WHATEVER THE INPUT: true; the input reads as it did. -/
def convolEncodesSpec : ChangeSpec := { name := "convolEncodes", fn := fun _ => fun
  | [d] => { results := [.lit (.bool true)], args := [d] }
  | _ => none }
def convolEncodesRow : OpenClaim := { program := "ytaifnonamkidiaa", sum := "68e10615d5119161492634995a62117ef2db200834ef5479196c8fa61dfe990b", func := "perigee/perigeelaw06.ConvolEncodes", spec := "convolEncodes", unfollowed := true, recurses := true, apart := false }
def ConvolEncodesSaid : Prop := convolEncodesRow.holds Try.pinned (OpenSpec.ofChange convolEncodesSpec)

/-- ITS FALSE NEIGHBOUR: 'it returns false'. Refute it at one input. -/
def convolEncodesWrong : ChangeSpec := { name := "convolEncodes", fn := fun _ => fun
  | [d] => { results := [.lit (.bool false)], args := [d] }
  | _ => none }
def ConvolEncodesWrongFalsely : Prop := convolEncodesRow.holds Try.pinned (OpenSpec.ofChange convolEncodesWrong)

/-- 'perigeelaw06.ConvolLinear': WHATEVER THE INPUT: true; the input reads as it did. -/
def convolLinearSpec : ChangeSpec := { name := "convolLinear", fn := fun _ => fun
  | [d1, d2, d3] => { results := [.lit (.bool true)], args := [d1, d2, d3] }
  | _ => none }
def convolLinearRow : OpenClaim := { program := "ytaifnonamkidiaa", sum := "68e10615d5119161492634995a62117ef2db200834ef5479196c8fa61dfe990b", func := "perigee/perigeelaw06.ConvolLinear", spec := "convolLinear", unfollowed := true, recurses := true, apart := false }
def ConvolLinearSaid : Prop := convolLinearRow.holds Try.pinned (OpenSpec.ofChange convolLinearSpec)

/-- ITS FALSE NEIGHBOUR: 'it returns false'. Refute it at one input. -/
def convolLinearWrong : ChangeSpec := { name := "convolLinear", fn := fun _ => fun
  | [d1, d2, d3] => { results := [.lit (.bool false)], args := [d1, d2, d3] }
  | _ => none }
def ConvolLinearWrongFalsely : Prop := convolLinearRow.holds Try.pinned (OpenSpec.ofChange convolLinearWrong)

/-- 'perigeelaw06.ConvolMemory': WHATEVER THE INPUT: true; the input reads as it did. -/
def convolMemorySpec : ChangeSpec := { name := "convolMemory", fn := fun _ => fun
  | [d1, d2] => { results := [.lit (.bool true)], args := [d1, d2] }
  | _ => none }
def convolMemoryRow : OpenClaim := { program := "ytaifnonamkidiaa", sum := "68e10615d5119161492634995a62117ef2db200834ef5479196c8fa61dfe990b", func := "perigee/perigeelaw06.ConvolMemory", spec := "convolMemory", unfollowed := true, recurses := true, apart := false }
def ConvolMemorySaid : Prop := convolMemoryRow.holds Try.pinned (OpenSpec.ofChange convolMemorySpec)

/-- ITS FALSE NEIGHBOUR: 'it returns false'. Refute it at one input. -/
def convolMemoryWrong : ChangeSpec := { name := "convolMemory", fn := fun _ => fun
  | [d1, d2] => { results := [.lit (.bool false)], args := [d1, d2] }
  | _ => none }
def ConvolMemoryWrongFalsely : Prop := convolMemoryRow.holds Try.pinned (OpenSpec.ofChange convolMemoryWrong)

/-- 'perigeelaw06.ConvolDistance': WHATEVER THE INPUT: true; the input reads as it did. -/
def convolDistanceSpec : ChangeSpec := { name := "convolDistance", fn := fun _ => fun
  | [d1, d2] => { results := [.lit (.bool true)], args := [d1, d2] }
  | _ => none }
def convolDistanceRow : OpenClaim := { program := "ytaifnonamkidiaa", sum := "68e10615d5119161492634995a62117ef2db200834ef5479196c8fa61dfe990b", func := "perigee/perigeelaw06.ConvolDistance", spec := "convolDistance", unfollowed := true, recurses := true, apart := false }
def ConvolDistanceSaid : Prop := convolDistanceRow.holds Try.pinned (OpenSpec.ofChange convolDistanceSpec)

/-- ITS FALSE NEIGHBOUR: 'it returns false'. Refute it at one input. -/
def convolDistanceWrong : ChangeSpec := { name := "convolDistance", fn := fun _ => fun
  | [d1, d2] => { results := [.lit (.bool false)], args := [d1, d2] }
  | _ => none }
def ConvolDistanceWrongFalsely : Prop := convolDistanceRow.holds Try.pinned (OpenSpec.ofChange convolDistanceWrong)

/-- 'perigeelaw06.ConvolFree': WHATEVER THE INPUT: true; the input reads as it did. -/
def convolFreeSpec : ChangeSpec := { name := "convolFree", fn := fun _ => fun
  | [] => { results := [.lit (.bool true)], args := [] }
  | _ => none }
def convolFreeRow : OpenClaim := { program := "ytaifnonamkidiaa", sum := "68e10615d5119161492634995a62117ef2db200834ef5479196c8fa61dfe990b", func := "perigee/perigeelaw06.ConvolFree", spec := "convolFree", unfollowed := true, recurses := true, apart := false }
def ConvolFreeSaid : Prop := convolFreeRow.holds Try.pinned (OpenSpec.ofChange convolFreeSpec)

/-- ITS FALSE NEIGHBOUR: 'it returns false'. Refute it at one input. -/
def convolFreeWrong : ChangeSpec := { name := "convolFree", fn := fun _ => fun
  | [] => { results := [.lit (.bool false)], args := [] }
  | _ => none }
def ConvolFreeWrongFalsely : Prop := convolFreeRow.holds Try.pinned (OpenSpec.ofChange convolFreeWrong)

/- THE SECOND FORM. 'bulk': how many values and letters a reading holds, each counted each time it is reached (what is shared counts as often as it is met; a slice's spare places count too). A statement '..UptoSaid' is the law's where the arguments, and the package variables that the reading takes, are together of bulk at most 1048576: NARROWER than '..Said'. Prove '..Said' where nothing that the law and all that it calls make is longer than what came in: it says more and counts as full. Else prove '..UptoSaid'. A law counts once. -/
mutual
def uptoBulk {H : Type} : DataW H → Nat
  | .lit (.string bytes) => bytes.length + 1
  | .lit _ => 1
  | .nil => 1
  | .ptr d => uptoBulk d + 1
  | .slice elems spare => uptoBulkAll elems + uptoBulkAll spare + 1
  | .agg parts => uptoBulkAll parts + 1
  | .iface _ d => uptoBulk d + 1
  | .map entries => uptoBulkEntries entries + 1
  | .held _ => 1
def uptoBulkAll {H : Type} : List (DataW H) → Nat
  | [] => 0
  | d :: r => uptoBulk d + uptoBulkAll r
def uptoBulkEntries {H : Type} : List (Lit × DataW H) → Nat
  | [] => 0
  | x :: r => uptoBulkEntry x + uptoBulkEntries r
def uptoBulkEntry {H : Type} : Lit × DataW H → Nat
  | (.string bytes, d) => bytes.length + uptoBulk d + 1
  | (_, d) => uptoBulk d + 1
 end
def uptoSmall : (H : Type) → List (DataW H) → Bool := fun _ ds => decide (uptoBulkAll ds ≤ 1048576)
def OpenSpec.upto (s : _root_.Go.ChangeSpec) : _root_.Go.OpenSpec := { _root_.Go.OpenSpec.ofChange s with cond := some uptoSmall }

/-- 'perigeelaw06.ConvolSteps', WHERE WHAT IT READS IS OF BULK AT MOST 1048576: true; the input reads as it did. -/
def convolStepsUptoRow : OpenClaim := { program := "ytaifnonamkidiaa", sum := "68e10615d5119161492634995a62117ef2db200834ef5479196c8fa61dfe990b", func := "perigee/perigeelaw06.ConvolSteps", spec := "convolSteps", unfollowed := true, recurses := true, apart := false, narrowed := true }
def ConvolStepsUptoSaid : Prop := convolStepsUptoRow.holds Try.pinned (OpenSpec.upto convolStepsSpec)

/-- 'perigeelaw06.ConvolEncodes', WHERE WHAT IT READS IS OF BULK AT MOST 1048576: true; the input reads as it did. -/
def convolEncodesUptoRow : OpenClaim := { program := "ytaifnonamkidiaa", sum := "68e10615d5119161492634995a62117ef2db200834ef5479196c8fa61dfe990b", func := "perigee/perigeelaw06.ConvolEncodes", spec := "convolEncodes", unfollowed := true, recurses := true, apart := false, narrowed := true }
def ConvolEncodesUptoSaid : Prop := convolEncodesUptoRow.holds Try.pinned (OpenSpec.upto convolEncodesSpec)

/-- 'perigeelaw06.ConvolLinear', WHERE WHAT IT READS IS OF BULK AT MOST 1048576: true; the input reads as it did. -/
def convolLinearUptoRow : OpenClaim := { program := "ytaifnonamkidiaa", sum := "68e10615d5119161492634995a62117ef2db200834ef5479196c8fa61dfe990b", func := "perigee/perigeelaw06.ConvolLinear", spec := "convolLinear", unfollowed := true, recurses := true, apart := false, narrowed := true }
def ConvolLinearUptoSaid : Prop := convolLinearUptoRow.holds Try.pinned (OpenSpec.upto convolLinearSpec)

/-- 'perigeelaw06.ConvolMemory', WHERE WHAT IT READS IS OF BULK AT MOST 1048576: true; the input reads as it did. -/
def convolMemoryUptoRow : OpenClaim := { program := "ytaifnonamkidiaa", sum := "68e10615d5119161492634995a62117ef2db200834ef5479196c8fa61dfe990b", func := "perigee/perigeelaw06.ConvolMemory", spec := "convolMemory", unfollowed := true, recurses := true, apart := false, narrowed := true }
def ConvolMemoryUptoSaid : Prop := convolMemoryUptoRow.holds Try.pinned (OpenSpec.upto convolMemorySpec)

/-- 'perigeelaw06.ConvolDistance', WHERE WHAT IT READS IS OF BULK AT MOST 1048576: true; the input reads as it did. -/
def convolDistanceUptoRow : OpenClaim := { program := "ytaifnonamkidiaa", sum := "68e10615d5119161492634995a62117ef2db200834ef5479196c8fa61dfe990b", func := "perigee/perigeelaw06.ConvolDistance", spec := "convolDistance", unfollowed := true, recurses := true, apart := false, narrowed := true }
def ConvolDistanceUptoSaid : Prop := convolDistanceUptoRow.holds Try.pinned (OpenSpec.upto convolDistanceSpec)

/-- 'perigeelaw06.ConvolFree', WHERE WHAT IT READS IS OF BULK AT MOST 1048576: true; the input reads as it did. -/
def convolFreeUptoRow : OpenClaim := { program := "ytaifnonamkidiaa", sum := "68e10615d5119161492634995a62117ef2db200834ef5479196c8fa61dfe990b", func := "perigee/perigeelaw06.ConvolFree", spec := "convolFree", unfollowed := true, recurses := true, apart := false, narrowed := true }
def ConvolFreeUptoSaid : Prop := convolFreeUptoRow.holds Try.pinned (OpenSpec.upto convolFreeSpec)

end Rows
end Go.Proofs.Ytaifnonamkidiaa
