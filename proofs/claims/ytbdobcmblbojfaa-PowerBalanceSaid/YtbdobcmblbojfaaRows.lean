/-
  No cell of these rows narrows 'for every input' (looked for: loops, veiled, ifaces, maps, wideKeys, modest, calm, conditions, laid).
  DERIVED. THE GIVEN ROWS OF THIS SEAT. 6 by the template 'for every input the law returns true; each argument reads behind the call as it read before'; 0 by the template 'total and deterministic' (their statements: YtbdobcmblbojfaaTotals.lean).
  GIVEN WITH THE SEED: the statements are not yours to turn. If you find one false, say at which input.
  Laid BY PROGRAM, IN A SANDBOX (cutbox-rows.mjs): the forced cells as the released guide's own fill.sh prints them over the translation b2571a60aa91166a… (all of the seat's roots in one cut). By AI agents, Wed Nov 11 2026. No macro, syntax, notation, axiom, sorry.
-/
import Derived.Test.YtbdobcmblbojfaaChecked
import GoSem.Claim
import GoSem.ClaimJoined
import GoSem.ClaimMapViews
import Derived.JoinedTies
import Derived.KernelRfl
namespace Go.Proofs.Ytbdobcmblbojfaa
/- THE CELL 'sum', in the pinned program and in every row, IS THE sha256 OF THE DUMP (.gsa) THAT YtbdobcmblbojfaaProg.lean LOADS. Nothing in Lean hashes anything: it is a label: what it is worth is what the hold of that sum in a sandbox is worth. -/
noncomputable def Try.pinned : Pinned := { name := "ytbdobcmblbojfaa", sum := "b2571a60aa91166a7de40255b66b2ab5c2e83e3a30d4c588a9537d91105036fe", checked := Try.checked }
namespace Rows
def none {H : Type} : Left H := { results := [], args := [] }

/-- 'perigeelaw27.PowerSteps': WHATEVER THE INPUT: true; the input reads as it did. -/
def powerStepsSpec : ChangeSpec := { name := "powerSteps", fn := fun _ => fun
  | [d1, d2, d3] => { results := [.lit (.bool true)], args := [d1, d2, d3] }
  | _ => none }
def powerStepsRow : OpenClaim := { program := "ytbdobcmblbojfaa", sum := "b2571a60aa91166a7de40255b66b2ab5c2e83e3a30d4c588a9537d91105036fe", func := "perigee/perigeelaw27.PowerSteps", spec := "powerSteps", unfollowed := true, recurses := true, apart := false }
def PowerStepsSaid : Prop := powerStepsRow.holds Try.pinned (OpenSpec.ofChange powerStepsSpec)

/-- ITS FALSE NEIGHBOUR: 'it returns false'. Refute it at one input. -/
def powerStepsWrong : ChangeSpec := { name := "powerSteps", fn := fun _ => fun
  | [d1, d2, d3] => { results := [.lit (.bool false)], args := [d1, d2, d3] }
  | _ => none }
def PowerStepsWrongFalsely : Prop := powerStepsRow.holds Try.pinned (OpenSpec.ofChange powerStepsWrong)

/-- 'perigeelaw27.PowerPanels': WHATEVER THE INPUT: true; the input reads as it did. -/
def powerPanelsSpec : ChangeSpec := { name := "powerPanels", fn := fun _ => fun
  | [d1, d2, d3] => { results := [.lit (.bool true)], args := [d1, d2, d3] }
  | _ => none }
def powerPanelsRow : OpenClaim := { program := "ytbdobcmblbojfaa", sum := "b2571a60aa91166a7de40255b66b2ab5c2e83e3a30d4c588a9537d91105036fe", func := "perigee/perigeelaw27.PowerPanels", spec := "powerPanels", unfollowed := true, recurses := true, apart := false }
def PowerPanelsSaid : Prop := powerPanelsRow.holds Try.pinned (OpenSpec.ofChange powerPanelsSpec)

/-- ITS FALSE NEIGHBOUR: 'it returns false'. Refute it at one input. -/
def powerPanelsWrong : ChangeSpec := { name := "powerPanels", fn := fun _ => fun
  | [d1, d2, d3] => { results := [.lit (.bool false)], args := [d1, d2, d3] }
  | _ => none }
def PowerPanelsWrongFalsely : Prop := powerPanelsRow.holds Try.pinned (OpenSpec.ofChange powerPanelsWrong)

/-- 'perigeelaw27.PowerLasts': WHATEVER THE INPUT: true; the input reads as it did. -/
def powerLastsSpec : ChangeSpec := { name := "powerLasts", fn := fun _ => fun
  | [d1, d2] => { results := [.lit (.bool true)], args := [d1, d2] }
  | _ => none }
def powerLastsRow : OpenClaim := { program := "ytbdobcmblbojfaa", sum := "b2571a60aa91166a7de40255b66b2ab5c2e83e3a30d4c588a9537d91105036fe", func := "perigee/perigeelaw27.PowerLasts", spec := "powerLasts", unfollowed := true, recurses := true, apart := false }
def PowerLastsSaid : Prop := powerLastsRow.holds Try.pinned (OpenSpec.ofChange powerLastsSpec)

/-- ITS FALSE NEIGHBOUR: 'it returns false'. Refute it at one input. -/
def powerLastsWrong : ChangeSpec := { name := "powerLasts", fn := fun _ => fun
  | [d1, d2] => { results := [.lit (.bool false)], args := [d1, d2] }
  | _ => none }
def PowerLastsWrongFalsely : Prop := powerLastsRow.holds Try.pinned (OpenSpec.ofChange powerLastsWrong)

/-- 'perigeelaw27.PowerBalance': WHATEVER THE INPUT: true; the input reads as it did. -/
def powerBalanceSpec : ChangeSpec := { name := "powerBalance", fn := fun _ => fun
  | [d1, d2, d3] => { results := [.lit (.bool true)], args := [d1, d2, d3] }
  | _ => none }
def powerBalanceRow : OpenClaim := { program := "ytbdobcmblbojfaa", sum := "b2571a60aa91166a7de40255b66b2ab5c2e83e3a30d4c588a9537d91105036fe", func := "perigee/perigeelaw27.PowerBalance", spec := "powerBalance", unfollowed := true, recurses := true, apart := false }
def PowerBalanceSaid : Prop := powerBalanceRow.holds Try.pinned (OpenSpec.ofChange powerBalanceSpec)

/-- ITS FALSE NEIGHBOUR: 'it returns false'. Refute it at one input. -/
def powerBalanceWrong : ChangeSpec := { name := "powerBalance", fn := fun _ => fun
  | [d1, d2, d3] => { results := [.lit (.bool false)], args := [d1, d2, d3] }
  | _ => none }
def PowerBalanceWrongFalsely : Prop := powerBalanceRow.holds Try.pinned (OpenSpec.ofChange powerBalanceWrong)

/-- 'perigeelaw27.PowerSheds': WHATEVER THE INPUT: true; the input reads as it did. -/
def powerShedsSpec : ChangeSpec := { name := "powerSheds", fn := fun _ => fun
  | [d1, d2, d3] => { results := [.lit (.bool true)], args := [d1, d2, d3] }
  | _ => none }
def powerShedsRow : OpenClaim := { program := "ytbdobcmblbojfaa", sum := "b2571a60aa91166a7de40255b66b2ab5c2e83e3a30d4c588a9537d91105036fe", func := "perigee/perigeelaw27.PowerSheds", spec := "powerSheds", unfollowed := true, recurses := true, apart := false }
def PowerShedsSaid : Prop := powerShedsRow.holds Try.pinned (OpenSpec.ofChange powerShedsSpec)

/-- ITS FALSE NEIGHBOUR: 'it returns false'. Refute it at one input. -/
def powerShedsWrong : ChangeSpec := { name := "powerSheds", fn := fun _ => fun
  | [d1, d2, d3] => { results := [.lit (.bool false)], args := [d1, d2, d3] }
  | _ => none }
def PowerShedsWrongFalsely : Prop := powerShedsRow.holds Try.pinned (OpenSpec.ofChange powerShedsWrong)

/-- 'perigeelaw27.PowerLives': WHATEVER THE INPUT: true; the input reads as it did. -/
def powerLivesSpec : ChangeSpec := { name := "powerLives", fn := fun _ => fun
  | [d1, d2] => { results := [.lit (.bool true)], args := [d1, d2] }
  | _ => none }
def powerLivesRow : OpenClaim := { program := "ytbdobcmblbojfaa", sum := "b2571a60aa91166a7de40255b66b2ab5c2e83e3a30d4c588a9537d91105036fe", func := "perigee/perigeelaw27.PowerLives", spec := "powerLives", unfollowed := true, recurses := true, apart := false }
def PowerLivesSaid : Prop := powerLivesRow.holds Try.pinned (OpenSpec.ofChange powerLivesSpec)

/-- ITS FALSE NEIGHBOUR: 'it returns false'. Refute it at one input. -/
def powerLivesWrong : ChangeSpec := { name := "powerLives", fn := fun _ => fun
  | [d1, d2] => { results := [.lit (.bool false)], args := [d1, d2] }
  | _ => none }
def PowerLivesWrongFalsely : Prop := powerLivesRow.holds Try.pinned (OpenSpec.ofChange powerLivesWrong)

/- THE SECOND FORM. 'bulk': how many values and letters a reading holds, each counted each time it is reached (what is shared counts as often as it is met; a slice's spare places count too). A statement '..UptoSaid' is the law's where the arguments, and the package variables that the reading takes, are together of bulk at most 1048576: NARROWER than '..Said'. Prove '..Said' where nothing that the law and all that it calls make is longer than what came in: it says more and counts as full. Else prove '..UptoSaid'. A law counts once. -/
mutual
def uptoBulk {H : Type} : DataW H → Nat
  | .lit (.string bytes) => bytes.length + 1
  | .lit _ => 1
  | .nil => 1
  | .ptr d => uptoBulk d + 1
  | .slice elems spare => uptoBulkAll elems + uptoBulkAll spare + 1
  | .agg parts => uptoBulkAll parts + 1
  | .iface _ d => uptoBulk d + 1
  | .map entries => uptoBulkEntries entries + 1
  | .held _ => 1
def uptoBulkAll {H : Type} : List (DataW H) → Nat
  | [] => 0
  | d :: r => uptoBulk d + uptoBulkAll r
def uptoBulkEntries {H : Type} : List (Lit × DataW H) → Nat
  | [] => 0
  | x :: r => uptoBulkEntry x + uptoBulkEntries r
def uptoBulkEntry {H : Type} : Lit × DataW H → Nat
  | (.string bytes, d) => bytes.length + uptoBulk d + 1
  | (_, d) => uptoBulk d + 1
 end
def uptoSmall : (H : Type) → List (DataW H) → Bool := fun _ ds => decide (uptoBulkAll ds ≤ 1048576)
def OpenSpec.upto (s : _root_.Go.ChangeSpec) : _root_.Go.OpenSpec := { _root_.Go.OpenSpec.ofChange s with cond := some uptoSmall }

/-- 'perigeelaw27.PowerSteps', WHERE WHAT IT READS IS OF BULK AT MOST 1048576: true; the input reads as it did. -/
def powerStepsUptoRow : OpenClaim := { program := "ytbdobcmblbojfaa", sum := "b2571a60aa91166a7de40255b66b2ab5c2e83e3a30d4c588a9537d91105036fe", func := "perigee/perigeelaw27.PowerSteps", spec := "powerSteps", unfollowed := true, recurses := true, apart := false, narrowed := true }
def PowerStepsUptoSaid : Prop := powerStepsUptoRow.holds Try.pinned (OpenSpec.upto powerStepsSpec)

/-- 'perigeelaw27.PowerPanels', WHERE WHAT IT READS IS OF BULK AT MOST 1048576: true; the input reads as it did. -/
def powerPanelsUptoRow : OpenClaim := { program := "ytbdobcmblbojfaa", sum := "b2571a60aa91166a7de40255b66b2ab5c2e83e3a30d4c588a9537d91105036fe", func := "perigee/perigeelaw27.PowerPanels", spec := "powerPanels", unfollowed := true, recurses := true, apart := false, narrowed := true }
def PowerPanelsUptoSaid : Prop := powerPanelsUptoRow.holds Try.pinned (OpenSpec.upto powerPanelsSpec)

/-- 'perigeelaw27.PowerLasts', WHERE WHAT IT READS IS OF BULK AT MOST 1048576: true; the input reads as it did. -/
def powerLastsUptoRow : OpenClaim := { program := "ytbdobcmblbojfaa", sum := "b2571a60aa91166a7de40255b66b2ab5c2e83e3a30d4c588a9537d91105036fe", func := "perigee/perigeelaw27.PowerLasts", spec := "powerLasts", unfollowed := true, recurses := true, apart := false, narrowed := true }
def PowerLastsUptoSaid : Prop := powerLastsUptoRow.holds Try.pinned (OpenSpec.upto powerLastsSpec)

/-- 'perigeelaw27.PowerBalance', WHERE WHAT IT READS IS OF BULK AT MOST 1048576: true; the input reads as it did. -/
def powerBalanceUptoRow : OpenClaim := { program := "ytbdobcmblbojfaa", sum := "b2571a60aa91166a7de40255b66b2ab5c2e83e3a30d4c588a9537d91105036fe", func := "perigee/perigeelaw27.PowerBalance", spec := "powerBalance", unfollowed := true, recurses := true, apart := false, narrowed := true }
def PowerBalanceUptoSaid : Prop := powerBalanceUptoRow.holds Try.pinned (OpenSpec.upto powerBalanceSpec)

/-- 'perigeelaw27.PowerSheds', WHERE WHAT IT READS IS OF BULK AT MOST 1048576: true; the input reads as it did. -/
def powerShedsUptoRow : OpenClaim := { program := "ytbdobcmblbojfaa", sum := "b2571a60aa91166a7de40255b66b2ab5c2e83e3a30d4c588a9537d91105036fe", func := "perigee/perigeelaw27.PowerSheds", spec := "powerSheds", unfollowed := true, recurses := true, apart := false, narrowed := true }
def PowerShedsUptoSaid : Prop := powerShedsUptoRow.holds Try.pinned (OpenSpec.upto powerShedsSpec)

/-- 'perigeelaw27.PowerLives', WHERE WHAT IT READS IS OF BULK AT MOST 1048576: true; the input reads as it did. -/
def powerLivesUptoRow : OpenClaim := { program := "ytbdobcmblbojfaa", sum := "b2571a60aa91166a7de40255b66b2ab5c2e83e3a30d4c588a9537d91105036fe", func := "perigee/perigeelaw27.PowerLives", spec := "powerLives", unfollowed := true, recurses := true, apart := false, narrowed := true }
def PowerLivesUptoSaid : Prop := powerLivesUptoRow.holds Try.pinned (OpenSpec.upto powerLivesSpec)

end Rows
end Go.Proofs.Ytbdobcmblbojfaa
