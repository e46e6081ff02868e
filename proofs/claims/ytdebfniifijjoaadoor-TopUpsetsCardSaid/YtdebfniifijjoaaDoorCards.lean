/-
  DERIVED. GIVEN WITH THE SEED: THE CARDS: each row of YtdebfniifijjoaaDoorRows.lean that lists a variable, with what it lists TIED to the program's text (the seventh form; the later family's looks); each row that meets fmt, with fmt's text TOLD by the authors' own Lean function (tested against real Go, not proved from fmt's source: count such statements apart). THE CARD IS WHAT COUNTS. Prove the row's statement (the work); the ties are given (YtdebfniifijjoaaDoorTie.lean); close each card by the builder's one call (the guide's Derived/Test/ToyasCard.lean, 'card_holds'). Laid BY PROGRAM, IN A SANDBOX (cutbox-door.mjs). By AI agents, Wed Nov 11 2026. No macro, syntax, notation, axiom, sorry.
-/
import Derived.Test.YtdebfniifijjoaaDoorRows
import GoSem.ClaimSeven
namespace Go.Proofs.YtdebfniifijjoaaDoor
namespace Rows

/-- THE TIED CARD OF 'perigeetop.TopUpsets'. -/
def topUpsetsCard : Claim7 := { stood := { row := topUpsetsRow, standIns := [], harness := (true, "0c4fbf677118ddfb12bdc92db20a5763292f202b4ae0b64c31d0b481df0d2946"), looks := true }, kinds := [], alts := [], laidByText := true, laidKinds := [.data], laidTests := true, laidLooks := .later }
def TopUpsetsCardSaid : Prop := Claim7.holds Tryd.pinned (.plain (OpenSpec.ofChange topUpsetsSpec)) topUpsetsCard

/-- THE SECOND FORM's CARD OF 'perigeetop.TopUpsets'. -/
def topUpsetsUptoCard : Claim7 := { stood := { row := topUpsetsUptoRow, standIns := [], harness := (true, "0c4fbf677118ddfb12bdc92db20a5763292f202b4ae0b64c31d0b481df0d2946"), looks := true }, kinds := [], alts := [], laidByText := true, laidKinds := [.data], laidTests := true, laidLooks := .later }
def TopUpsetsUptoCardSaid : Prop := Claim7.holds Tryd.pinned (.plain (OpenSpec.upto topUpsetsSpec)) topUpsetsUptoCard
end Rows
end Go.Proofs.YtdebfniifijjoaaDoor
